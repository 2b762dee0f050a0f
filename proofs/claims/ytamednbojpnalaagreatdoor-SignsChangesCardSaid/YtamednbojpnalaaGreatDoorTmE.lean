/- What functions of the program compute, as pure functions of their arguments. Conditions: those that each theorem names. -/
import Derived.Test.YtamednbojpnalaaGreatDoorTmA
set_option linter.unusedVariables false
namespace Go.Vg
def digitB (c : Int) : Bool := decide (48 ≤ c) && decide (c ≤ 57)
def letterB (c : Int) : Bool := decide (97 ≤ c) && decide (c ≤ 122) || decide (65 ≤ c) && decide (c ≤ 90) || decide (c = 95)
def keyword (s : ByteArray) : Bool := decide (s = ⟨#[102, 110]⟩) || decide (s = ⟨#[99, 108, 97, 115, 115]⟩) || decide (s = ⟨#[99, 111, 110, 115, 116]⟩) || decide (s = ⟨#[108, 101, 116]⟩) || decide (s = ⟨#[114, 101, 116, 117, 114, 110]⟩) || decide (s = ⟨#[105, 102]⟩) || decide (s = ⟨#[101, 108, 115, 101]⟩) || decide (s = ⟨#[119, 104, 105, 108, 101]⟩)
  || decide (s = ⟨#[110, 101, 119]⟩) || decide (s = ⟨#[115, 101, 108, 102]⟩) || decide (s = ⟨#[116, 114, 117, 101]⟩) || decide (s = ⟨#[102, 97, 108, 115, 101]⟩)
def nameB (c : Int) : Bool := letterB c || digitB c
def validName (s : ByteArray) : Bool := !decide ((s.size : Int) < 1) && !decide (32 < (s.size : Int)) && !digitB (byteAt s 0) && !keyword s && s.data.toList.all fun c => nameB c.toNat
theorem byteAt_zero {s : ByteArray} {x : UInt8} {r : List UInt8} (h : s.data.toList = x :: r) : byteAt s 0 = x.toNat := byteAt_mid (pre := []) h
end Go.Vg
namespace Go.Proofs.YtamednbojpnalaaGreatDoor
open Go Go.Vg Go.Proofs
theorem R03digit (c : Int) : VPure env 172 [.int .u8 c] (.bool (digitB c)) := by
  refine vpure_vc (fn := Tryz.f172) Tryz.func172 rfl (by rw [Tryz.ntmps172]; simp) rfl rfl ?_
  simp -implicitDefEqProofs only [go_sem, Tryz.f172, digitB]
  grind
theorem R03letter (c : Int) : VPure env 174 [.int .u8 c] (.bool (letterB c)) := by
  refine vpure_vc (fn := Tryz.f174) Tryz.func174 rfl (by rw [Tryz.ntmps174]; simp) rfl rfl ?_
  simp -implicitDefEqProofs only [go_sem, Tryz.f174, letterB]
  grind
theorem R03Keyword (s : ByteArray) : VPure env 173 [.str s] (.bool (keyword s)) := by
  refine vpure_vc (fn := Tryz.f173) Tryz.func173 rfl (by rw [Tryz.ntmps173]; simp) rfl rfl ?_
  simp -implicitDefEqProofs only [go_sem, Tryz.f173, keyword]
  simp +contextual
theorem R03Valid (s : ByteArray) : VPure env 134 [.str s] (.bool (validName s)) := by
  refine vpure_vc (fn := Tryz.f134) Tryz.func134 rfl (by rw [Tryz.ntmps134]; simp) rfl rfl ?_
  simp -implicitDefEqProofs only [go_sem, Tryz.f134]
  intro hs
  refine ⟨fun a1 _ => ⟨fun a2 => ⟨by omega, ?_⟩, fun a2 => ?_⟩, fun a1 => ?_⟩
  · refine (R03digit _).calls rfl ?_
    simp -implicitDefEqProofs only [go_sem]
    refine ⟨fun a3 => ?_, fun a3 => ?_⟩
    · refine (R03Keyword _).calls rfl ?_
      simp -implicitDefEqProofs only [go_sem]
      refine ⟨fun a4 => ?_, fun a4 => ?_⟩
      · simp [validName, a4]
      · refine snd_list (β := Unit) s.data.toList (fun pre _ => ⟨[(3, .int .i64 pre.length), (0, .str s)], [], []⟩) (fun pre _ _ => pre.all fun c => nameB c.toNat) () ?_ ?_ ?_ ?_
        · simp -implicitDefEqProofs only [go_sem]
          trivial
        · rfl
        · intro _ i1
          simp -implicitDefEqProofs only [go_sem, ← size_list]
          intro _
          simp [validName, a1, a2, a3, a4]
          simpa using i1
        · rintro pre x post _ hx i1
          have hz := size_mid hx
          simp -implicitDefEqProofs only [go_sem, hz, byteAt_mid hx]
          intro hl
          refine (R03letter _).calls rfl ?_
          simp -implicitDefEqProofs only [go_sem, hz, byteAt_mid hx]
          have hnext := wrap_next (mid_len hl)
          refine ⟨fun c => (R03digit _).calls rfl ?_, fun c => ⟨(), ?_, hnext⟩⟩
          · simp -implicitDefEqProofs only [go_sem]
            refine ⟨fun d => ?_, fun d => ⟨(), ?_, hnext⟩⟩
            · have : (s.data.toList.all fun c => nameB c.toNat) = false := by rw [hx]; simp_all [nameB]
              unfold validName
              rw [this]; simp
            · simp_all [nameB]
          · simp_all [nameB]
    · simp [validName, a3]
  · simp [validName, a2]
  · simp [validName, a1]
theorem encS_eq {s : ByteArray} : encS s = [.str s] := rfl
theorem R03Has (l : List ByteArray) (s : ByteArray) : VPure env 167 [sl 9 (l.map encS), .str s] (.bool (l.any fun x => decide (x = s))) := by
  refine vpure_vc (fn := Tryz.f167) Tryz.func167 rfl (by rw [Tryz.ntmps167]; simp) (by simp -implicitDefEqProofs only [go_sem]) rfl ?_
  simp -implicitDefEqProofs only [go_sem, Tryz.f167]
  refine snd_list (β := Unit) l (fun pre _ => ⟨[(5, .int .i64 pre.length), (0, sl 9 (l.map encS)), (1, .str s)], [], []⟩) (fun pre _ _ => (pre.any fun x => decide (x = s)) = false) () ?_ ?_ ?_ ?_
  · simp -implicitDefEqProofs only [go_sem]
    trivial
  · rfl
  · intro _ i1
    simp -implicitDefEqProofs only [go_sem, i1]
  · rintro pre x post _ rfl i1
    simp -implicitDefEqProofs only [go_sem, encS]
    intro _ hl
    refine ⟨fun c => ?_, fun c => ⟨(), ?_, wrap_next (mid_len' hl (by decide))⟩⟩
    · simp [c]
    · simp_all
end Go.Proofs.YtamednbojpnalaaGreatDoor
set_option linter.unusedVariables false
namespace Go.Vg
/-- The digits of a number. -/
def decN (n : Nat) : ByteArray := if h : n < 10 then strOf [48 + (n % 10 : Nat)] else decN (n / 10) ++ strOf [48 + (n % 10 : Nat)]
  termination_by n
  decreasing_by omega
end Go.Vg
namespace Go.Proofs.YtamednbojpnalaaGreatDoor
open Go Go.Vg Go.Proofs
theorem wrap8 {x : Int} (h : 0 ≤ x) (h' : x ≤ 255) : IntKind.u8.wrap x = x := by
  simp only [IntKind.wrap, IntKind.signed, IntKind.bits]; simp; omega
theorem tmod10 (n : Nat) : (n : Int).tmod 10 = ((n % 10 : Nat) : Int) := by rw [Int.tmod_eq_emod_of_nonneg (by omega)]; omega
theorem tdiv10 (n : Nat) : (n : Int).tdiv 10 = ((n / 10 : Nat) : Int) := by rw [Int.tdiv_eq_ediv_of_nonneg (by omega)]; omega
theorem digit8 (n : Nat) : IntKind.u8.wrap (IntKind.i64.wrap (48 + (n : Int).tmod 10)) = 48 + (n % 10 : Nat) := by
  rw [tmod10, wrap_small (by omega) (by omega), wrap8 (by omega) (by omega)]
theorem strOf_size {l : List Int} : (strOf l).size = l.length := by simp [strOf, ByteArray.size]
theorem decN_size (n : Nat) (k : Nat) (hn : n < 10 ^ k) : (decN n).size ≤ k + 1 := by
  induction k generalizing n with
  | zero => rw [decN, dif_pos (by simp at hn; omega), strOf_size]; simp
  | succ k ih =>
    rw [decN]
    split
    · rw [strOf_size]; simp
    · have := ih (n / 10) (by rw [Nat.pow_succ] at hn; omega)
      rw [ByteArray.size_append, strOf_size]; simp; omega
theorem R03Number (n : Nat) : n < 1000000000 → VPure env 51 [.int .i64 n] (.str (decN n)) := by
  induction n using Nat.strongRecOn with
  | _ n ih =>
  intro hn
  refine vpure_vc (fn := Tryz.f51) Tryz.func51 rfl (by rw [Tryz.ntmps51]; simp) rfl rfl ?_
  simp -implicitDefEqProofs only [go_sem, Tryz.f51]
  refine ⟨fun h => ?_, fun h => ?_⟩
  · rw [digit8, decN, dif_pos (by omega)]
  · refine snd_draw (cs := []) mixed (by kernel_rfl) ?_
    simp -implicitDefEqProofs only [go_sem]
    rw [tdiv10, wrap_small (by omega) (by omega)]
    refine vPC_of (ih (n / 10) (by omega) (by omega)) rfl ?_
    simp -implicitDefEqProofs only [go_sem]
    rw [digit8]
    refine ⟨?_, ?_⟩
    · have := decN_size (n / 10) 9 (by omega)
      rw [strOf_size]; simp; omega
    · conv => rhs; rw [decN, dif_neg (by omega)]
theorem R03Strings (a b : List ByteArray) : VPure env 16 [sl 9 (a.map encS), sl 9 (b.map encS)] (.bool (decide (a = b))) := by
  refine vpure_vc (fn := Tryz.f16) Tryz.func16 rfl (by rw [Tryz.ntmps16]; simp) (by simp -implicitDefEqProofs only [go_sem]) rfl ?_
  simp -implicitDefEqProofs only [go_sem, Tryz.f16]
  intro _ h1 _ h2
  refine ⟨fun c => ?_, fun c => ?_⟩
  · have : a ≠ b := by rintro rfl; simp at c
    simp [this]
  · have hl : a.length = b.length := by simp at c; omega
    refine snd_list (β := Unit) a (fun pre _ => ⟨[(5, .int .i64 pre.length), (0, sl 9 (a.map encS)), (1, sl 9 (b.map encS))], [], []⟩) (fun pre _ _ => ∃ r, b = pre ++ r) () ?_ ⟨b, rfl⟩ ?_ ?_
    · simp -implicitDefEqProofs only [go_sem]
      trivial
    · rintro _ ⟨r, hr⟩
      simp -implicitDefEqProofs only [go_sem]
      have : r = [] := List.eq_nil_of_length_eq_zero (by have := congrArg List.length hr; simp at this; omega)
      subst this
      simp [hr]
    · rintro pre x post _ rfl ⟨r, rfl⟩
      rcases r with _ | ⟨y, r⟩
      · simp at hl
      · simp -implicitDefEqProofs only [go_sem]
        intro _ hl
        refine snd_draw (cs := []) mixed (by kernel_rfl) ?_
        have hl2 : ((pre.length : Int) < ((pre ++ y :: r).length : Int)) = True := mid_lt
        simp -implicitDefEqProofs only [go_sem, encS, hl2]
        refine ⟨fun c => ?_, fun c => ⟨(), ⟨r, ?_⟩, wrap_next (mid_len' hl (by decide))⟩⟩
        · simp_all
        · simp_all
end Go.Proofs.YtamednbojpnalaaGreatDoor
set_option linter.unusedVariables false
namespace Go.Vg
mutual
def left : Nd → Int → Int → Int
  | .mk k t g ks, nodes, levels => if nodes < 1 ∨ levels < 1 ∨ nodes < (ks.length : Int) then -1 else lefts ks (nodes - 1) (levels - 1)
def lefts : List Nd → Int → Int → Int
  | [], rest, _ => rest
  | n :: r, rest, levels => if left n rest levels < 0 then -1 else lefts r (left n rest levels) levels
end
theorem left_le : ∀ nd n l, left nd n l ≤ n ∨ left nd n l = -1 := by
  refine Nd.all fun k t g ks ih n l => ?_
  have key : ∀ (ks : List Nd), (∀ x ∈ ks, ∀ n l, left x n l ≤ n ∨ left x n l = -1) → ∀ n l, lefts ks n l ≤ n ∨ lefts ks n l = -1 := by
    intro ks
    induction ks with
    | nil => intro _ n l; exact .inl (by rw [lefts]; exact Int.le_refl _)
    | cons x r ihr =>
      intro h n l
      rw [lefts]
      split
      · exact .inr rfl
      · have h1 := h x (by simp) n l
        have h2 := ihr (fun y hy => h y (by simp [hy])) (left x n l) l
        omega
  rw [left]
  split
  · exact .inr rfl
  · have := key ks ih (n - 1) (l - 1)
    omega
def weighG : List ByteArray → Int → Int
  | [], rest => rest
  | g :: r, rest => if rest ≤ (g.size : Int) then -1 else weighG r (rest - g.size - 1)
mutual
def weigh : Nd → Int → Int
  | .mk k t g ks, bytes => if bytes < (t.size : Int) ∨ bytes < (g.length : Int) then -1 else if weighG g (bytes - t.size) < 0 then -1 else weighs ks (weighG g (bytes - t.size))
def weighs : List Nd → Int → Int
  | [], rest => rest
  | n :: r, rest => if weigh n rest < 0 then -1 else weighs r (weigh n rest)
end
theorem weighG_le : ∀ g n, weighG g n ≤ n ∨ weighG g n = -1 := by
  intro g
  induction g with
  | nil => intro n; exact .inl (by rw [weighG]; exact Int.le_refl _)
  | cons x r ih =>
    intro n
    rw [weighG]
    split
    · exact .inr rfl
    · have := ih (n - x.size - 1); omega
theorem weigh_le : ∀ nd n, weigh nd n ≤ n ∨ weigh nd n = -1 := by
  refine Nd.all fun k t g ks ih n => ?_
  have key : ∀ (ks : List Nd), (∀ x ∈ ks, ∀ n, weigh x n ≤ n ∨ weigh x n = -1) → ∀ n, weighs ks n ≤ n ∨ weighs ks n = -1 := by
    intro ks
    induction ks with
    | nil => intro _ n; exact .inl (by rw [weighs]; exact Int.le_refl _)
    | cons x r ihr =>
      intro h n
      rw [weighs]
      split
      · exact .inr rfl
      · have h1 := h x (by simp) n
        have h2 := ihr (fun y hy => h y (by simp [hy])) (weigh x n)
        omega
  rw [weigh]
  split
  · exact .inr rfl
  · split
    · exact .inr rfl
    · have h1 := weighG_le g (n - t.size)
      have h2 := key ks ih (weighG g (n - t.size))
      omega
end Go.Vg
namespace Go.Proofs.YtamednbojpnalaaGreatDoor
open Go Go.Vg Go.Proofs
theorem R06left : (nd : Nd) → ∀ (nodes levels : Int) (h1 : nodes ≤ 1000000) (h2 : levels ≤ 1000000), VPure env 116 [.agg nd.enc, .int .i64 nodes, .int .i64 levels] (.int .i64 (left nd nodes levels)) := by
  refine Nd.all fun k t g ks ih nodes levels h1 h2 => ?_
  refine vpure_vc (fn := Tryz.f116) Tryz.func116 rfl (by rw [Tryz.ntmps116]; simp) (by simp -implicitDefEqProofs only [go_sem]) rfl ?_
  simp -implicitDefEqProofs only [go_sem, Tryz.f116]
  refine ⟨fun a1 => ⟨fun a2 a3' a3 => ⟨fun a4 => ?_, fun a4 => ?_⟩, fun a2 => ?_⟩, fun a1 => ?_⟩
  · rw [left, if_pos (by omega)]
  · refine snd_list (β := Int) ks (fun pre r => ⟨[(8, .int .i64 pre.length), (7, .int .i64 r), (3, .ptr 0 0), (2, .int .i64 levels)], [VObj.cells (Nd.mk k t g ks).enc], []⟩)
       (fun _ post r => lefts post r (levels - 1) = left (.mk k t g ks) nodes levels ∧ r ≤ 1000000) (nodes - 1) ?_ ?_ ?_ ?_
    · simp -implicitDefEqProofs only [go_sem]
      exact ⟨rfl, wrap_small (by omega) (by omega)⟩
    · exact ⟨by rw [left, if_neg (by omega)], by omega⟩
    · rintro r ⟨i1, i2⟩
      simp -implicitDefEqProofs only [go_sem, ← i1, lefts]
    · rintro pre x post r rfl ⟨i1, i2⟩
      have hl := mid_len a3
      simp -implicitDefEqProofs only [go_sem]
      rw [wrap_small (by omega) (by omega)]
      intro _ _
      refine (ih x mem_mid r (levels - 1) i2 (by omega)).calls (by simp -implicitDefEqProofs only [go_sem]) ?_
      simp -implicitDefEqProofs only [go_sem]
      refine ⟨fun c => ?_, fun c => ⟨left x r (levels - 1), ⟨?_, ?_⟩, wrap_next (by omega), rfl⟩⟩
      · rw [← i1, lefts, if_pos c]
      · rw [← i1, lefts, if_neg c]
      · have := left_le x r (levels - 1); omega
  · rw [left, if_pos (by omega)]
  · rw [left, if_pos (by omega)]
theorem R06Fits (nd : Nd) (nodes levels : Int) (h1 : nodes ≤ 1000000) (h2 : levels ≤ 1000000) : VPure env 81 [.agg nd.enc, .int .i64 nodes, .int .i64 levels] (.bool (decide (0 ≤ left nd nodes levels))) := by
  refine vpure_vc (fn := Tryz.f81) Tryz.func81 rfl (by rw [Tryz.ntmps81]; simp) (by simp -implicitDefEqProofs only [go_sem]) rfl ?_
  simp -implicitDefEqProofs only [go_sem, Tryz.f81]
  refine (R06left nd nodes levels h1 h2).calls (by simp -implicitDefEqProofs only [go_sem]) ?_
  simp -implicitDefEqProofs only [go_sem]
theorem R06weigh : (nd : Nd) → ∀ (bytes : Int) (h1 : bytes ≤ 1000000), VPure env 82 [.agg nd.enc, .int .i64 bytes] (.int .i64 (weigh nd bytes)) := by
  refine Nd.all fun k t g ks ih bytes h1 => ?_
  refine vpure_vc (fn := Tryz.f82) Tryz.func82 rfl (by rw [Tryz.ntmps82]; simp) (by simp -implicitDefEqProofs only [go_sem]) rfl ?_
  simp -implicitDefEqProofs only [go_sem, Tryz.f82]
  intro ht
  refine ⟨fun a1 _ hg => ⟨fun a2 => ?_, fun a2 _ => ?_⟩, fun a1 => ?_⟩
  · rw [weigh, if_pos (by omega)]
  · refine snd_list (β := Int) g (fun pre r => ⟨[(6, .int .i64 pre.length), (5, .int .i64 r), (2, .ptr 0 0)], [VObj.cells (Nd.mk k t g ks).enc], []⟩)
      (fun _ post r => weighG post r = weighG g (bytes - t.size) ∧ r ≤ 1000000 ∧ 0 ≤ r) (bytes - t.size) ?_ ?_ ?_ ?_
    · simp -implicitDefEqProofs only [go_sem]
      exact ⟨rfl, wrap_small (by omega) (by omega)⟩
    · exact ⟨rfl, by omega, by omega⟩
    · rintro r ⟨i1, i2, i3⟩
      simp -implicitDefEqProofs only [go_sem]
      intro _ _
      refine snd_list (β := Int) ks (fun pre r => ⟨[(7, .int .i64 pre.length), (5, .int .i64 r), (2, .ptr 0 0)], [VObj.cells (Nd.mk k t g ks).enc], []⟩)
        (fun _ post r => weighs post r = weigh (.mk k t g ks) bytes ∧ r ≤ 1000000 ∧ 0 ≤ r) r ?_ ?_ ?_ ?_
      · simp -implicitDefEqProofs only [go_sem]
        trivial
      · refine ⟨?_, i2, i3⟩
        rw [weigh, if_neg (by omega), ← i1, weighG, if_neg (by omega)]
      · rintro r' ⟨j1, j2, j3⟩
        simp -implicitDefEqProofs only [go_sem, ← j1, weighs]
      · rintro pre x post r' rfl ⟨j1, j2, j3⟩
        simp -implicitDefEqProofs only [go_sem]
        intro _ hl
        refine (ih x mem_mid r' j2).calls (by simp -implicitDefEqProofs only [go_sem]) ?_
        simp -implicitDefEqProofs only [go_sem]
        have hw : weigh x r' ≤ 1000000 := by have := weigh_le x r'; omega
        refine ⟨fun c => ?_, fun c => ⟨weigh x r', ⟨?_, ?_, ?_⟩, wrap_next (by have := mid_len hl; omega), rfl⟩⟩
        · rw [← j1, weighs, if_pos c]
        · rw [← j1, weighs, if_neg c]
        · exact hw
        · omega
    · rintro pre x post r rfl ⟨i1, i2, i3⟩
      simp -implicitDefEqProofs only [go_sem, encS]
      intro _ hl hx
      refine ⟨fun c => ?_, fun c _ => ⟨r - x.size - 1, ⟨?_, by omega, by omega⟩, wrap_next (by have := mid_len hl; omega), ?_⟩⟩
      · rw [weigh, if_neg (by omega), if_pos]
        rw [← i1, weighG, if_pos c]; decide
      · rw [← i1, weighG, if_neg (by omega)]
      · rw [wrap_small (x := r - x.size) (by omega) (by omega), wrap_small (by omega) (by omega)]
  · rw [weigh, if_pos (by omega)]
theorem R06Light (nd : Nd) (nodes levels bytes : Int) (h1 : nodes ≤ 1000000) (h2 : levels ≤ 1000000) (h3 : bytes ≤ 1000000) :
    VPure env 52 [.agg nd.enc, .int .i64 nodes, .int .i64 levels, .int .i64 bytes] (.bool (decide (0 ≤ left nd nodes levels) && decide (0 ≤ weigh nd bytes))) := by
  refine vpure_vc (fn := Tryz.f52) Tryz.func52 rfl (by rw [Tryz.ntmps52]; simp) (by simp -implicitDefEqProofs only [go_sem]) rfl ?_
  simp -implicitDefEqProofs only [go_sem, Tryz.f52]
  refine (R06Fits nd nodes levels h1 h2).calls (by simp -implicitDefEqProofs only [go_sem]) ?_
  simp -implicitDefEqProofs only [go_sem]
  refine ⟨fun c => (R06weigh nd bytes h3).calls (by simp -implicitDefEqProofs only [go_sem]) ?_, fun c => ?_⟩
  · simp -implicitDefEqProofs only [go_sem]
    simp [c]
  · simp [c]
end Go.Proofs.YtamednbojpnalaaGreatDoor
set_option linter.unusedVariables false
namespace Go.Vg
mutual
def nodes : Nd → List Nd
  | .mk k t g ks => .mk k t g ks :: nodesL ks
def nodesL : List Nd → List Nd
  | [] => []
  | n :: r => nodes n ++ nodesL r
end
theorem nodesL_snoc (x : Nd) : ∀ pre, nodesL (pre ++ [x]) = nodesL pre ++ nodes x
  | [] => by simp [nodesL]
  | y :: r => by simp [nodesL, nodesL_snoc x r]
theorem nodesL_app : ∀ a b, nodesL (a ++ b) = nodesL a ++ nodesL b
  | [], b => rfl
  | y :: r, b => by simp [nodesL, nodesL_app r b]
end Go.Vg
namespace Go.Proofs.YtamednbojpnalaaGreatDoor
open Go Go.Vg Go.Proofs
theorem R06list : (nd : Nd) → ∀ (h : List VObj) (a : List Nat) (kk : Nat) (es : List Nd), a[kk]? = some es.length → es.length + (nodes nd).length ≤ 1000000 →
    VCalls env 40 [.slice (.arr kk) 32 (es.map Nd.enc), .agg nd.enc] h a fun v h' a' => v = .slice (.arr kk) 32 ((es ++ nodes nd).map Nd.enc) ∧ (∃ z, h' = h ++ z) ∧ a' = a.set kk (es.length + (nodes nd).length) := by
  refine Nd.all fun k t g ks ih h a kk es ha hn => ?_
  refine vcalls_vc (fn := Tryz.f40) Tryz.func40 rfl (by rw [Tryz.ntmps40]; simp) ?_
  simp -implicitDefEqProofs only [go_sem, Tryz.f40, ha]
  rw [nodes] at hn ⊢
  simp only [List.length_cons] at hn ⊢
  refine ⟨by omega, ?_⟩
  refine snd_list (β := List VObj) ks (fun pre z => ⟨[(5, .int .i64 pre.length), (0, .slice (.arr kk) 32 ((es ++ .mk k t g ks :: nodesL pre).map Nd.enc)), (3, .ptr h.length 0)],
      h ++ (.cells (Nd.mk k t g ks).enc :: z), a.set kk (es.length + 1 + (nodesL pre).length)⟩) (fun _ _ _ => True) [] ?_ trivial ?_ ?_
  · simp -implicitDefEqProofs only [go_sem, nodesL]
    simp
  · intro z _
    simp -implicitDefEqProofs only [go_sem]
    intro _ _
    exact ⟨⟨_, rfl⟩, by congr 1; omega⟩
  · rintro pre x post z rfl _
    simp -implicitDefEqProofs only [go_sem]
    intro _ hl
    have hlen : (nodesL (pre ++ x :: post)).length = (nodesL pre).length + (nodes x).length + (nodesL post).length := by
      rw [nodesL_app, nodesL]; simp; omega
    refine VCalls.mono (ih x mem_mid _ _ kk (es ++ .mk k t g (pre ++ x :: post) :: nodesL pre) ?_ ?_) ?_
    · rw [arr_get ha]; simp; omega
    · simp; omega
    · rintro v h' a' ⟨rfl, ⟨z', rfl⟩, rfl⟩
      simp -implicitDefEqProofs only [go_sem]
      have e : (es ++ Nd.mk k t g (pre ++ x :: post) :: nodesL pre).length + (nodes x).length = es.length + 1 + (nodesL (pre ++ [x])).length := by rw [nodesL_snoc]; simp; omega
      refine ⟨z ++ z', ⟨wrap_next (by have := mid_len hl; omega), by rw [nodesL_snoc]; simp⟩, by rw [tellH_same]; trivial, by rw [e, tellA_same]; trivial, .inl (by simp)⟩
theorem R06List (nd : Nd) (hn : (nodes nd).length ≤ 1000000) : VPure env 14 [.agg nd.enc] (sl 32 ((nodes nd).map Nd.enc)) := by
  refine vpure_vc (fn := Tryz.f14) Tryz.func14 rfl (by rw [Tryz.ntmps14]; simp) (by simp -implicitDefEqProofs only [go_sem]) (by simp -implicitDefEqProofs only [go_sem]) ?_
  simp -implicitDefEqProofs only [go_sem, Tryz.f14]
  refine VCalls.adopt 0 (args' := [.slice (.arr 0) 32 (([] : List Nd).map Nd.enc), .agg nd.enc]) (by simp -implicitDefEqProofs only [go_sem]) ?_
  refine VCalls.mono (R06list nd _ ([] ++ [0]) 0 [] rfl (by simpa using hn)) ?_
  rintro v h' a' ⟨rfl, ⟨z, rfl⟩, rfl⟩
  simp -implicitDefEqProofs only [go_sem]
end Go.Proofs.YtamednbojpnalaaGreatDoor
