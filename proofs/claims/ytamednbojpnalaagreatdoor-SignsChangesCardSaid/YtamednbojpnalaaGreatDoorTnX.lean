/- The grammar of a node: its text and its gaps. -/
import Derived.Test.YtamednbojpnalaaGreatDoorTnU
import Derived.Test.YtamednbojpnalaaGreatDoorShelf
import Derived.Lib.ItoaNum
set_option linter.unusedVariables false
set_option linter.unusedSimpArgs false
set_option maxRecDepth 20000
namespace Go.Vg
def itoaB (n : Int) : ByteArray := ⟨(Lib.itoa n).toArray⟩
end Go.Vg
namespace Go.Proofs.YtamednbojpnalaaGreatDoor
open Go Go.Vg Go.Proofs Go.Shelf Go.RowKit
theorem cell_of_var {w : World} {n : String} {g : Nat} {v : Value} (hg : Tryz.prog.globalNamed n = some g) (h : w.var? Tryz.prog n = some #[v]) : w.cell? ⟨g, 0, none⟩ = some v := by
  unfold World.var? at h
  rw [hg] at h
  simp only [Option.bind_some] at h
  unfold World.cell?
  simp only
  split at h
  · rename_i cs a b hh
    cases h
    rw [hh]; rfl
  · cases h
theorem maxLen {w : World} (h : iniW w) : ∃ m, w.cell? ⟨2, 0, none⟩ = some (.int .i64 m) := by
  obtain ⟨m, hm⟩ := h.2
  exact ⟨m, cell_of_var (by kernel_rfl) hm⟩
theorem Itoa (n : Int) (h0 : -9223372036854775808 ≤ n) (h1 : n ≤ 9223372036854775807) (hs : (itoaB n).size ≤ 1152921504606846976) : VPure env 57 [.int .i64 n] (.str (itoaB n)) := by
  refine vpure_shelf (val := .string (itoaB n)) rfl rfl (fun G arr => .str _ hs) fun G w0 w vals hr ha => ?_
  obtain ⟨v, vs, rfl, hv, ha⟩ := ha.cons
  rw [ha.nil]
  cases hv
  refine (Tryz.strconv_Itoa n h0 h1 w hr.iniW.1).mono fun e w' ⟨he, k, os, hw⟩ => ⟨he, ?_⟩
  subst hw
  refine ⟨rfl, rfl, rfl, ?_, fun i hi => ?_⟩
  · show w.heap.size ≤ (w.heap ++ os).size
    simp
  · show (w.heap ++ os)[i]? = w.heap[i]?
    rw [Array.getElem?_append_left hi]
theorem IndexByte (s : ByteArray) (c : Int) : VPure env 238 [.str s, .int .u8 c] (.int .i64 (Lib.indexByte s.data.toList c.toNat.toUInt8)) := by
  refine vpure_shelf (val := .int .i64 (Lib.indexByte s.data.toList c.toNat.toUInt8)) rfl rfl (fun G arr => .int _ _) fun G w0 w vals hr ha => ?_
  obtain ⟨v, vs, rfl, hv, ha⟩ := ha.cons
  obtain ⟨v2, vs, rfl, hv2, ha⟩ := ha.cons
  rw [ha.nil]
  cases hv
  cases hv2
  exact (Tryz.strings_IndexByte s c w).mono fun e w' ⟨he, hw⟩ => ⟨he, hw ▸ Below.refl _ _⟩
theorem HasPrefix (s p : ByteArray) : VPure env 237 [.str s, .str p] (.bool (Lib.hasPrefix s.data.toList p.data.toList)) := by
  refine vpure_shelf (val := .bool (Lib.hasPrefix s.data.toList p.data.toList)) rfl rfl (fun G arr => .bool _) fun G w0 w vals hr ha => ?_
  obtain ⟨v, vs, rfl, hv, ha⟩ := ha.cons
  obtain ⟨v2, vs, rfl, hv2, ha⟩ := ha.cons
  rw [ha.nil]
  cases hv
  cases hv2
  exact (Tryz.strings_HasPrefix s p w).mono fun e w' ⟨he, hw⟩ => ⟨he, hw ▸ Below.refl _ _⟩
theorem Contains (s p : ByteArray) (hs : s.size < 4294967281) : VPure env 86 [.str s, .str p] (.bool (Lib.contains s.data.toList p.data.toList)) := by
  refine vpure_shelf (val := .bool (Lib.contains s.data.toList p.data.toList)) rfl rfl (fun G arr => .bool _) fun G w0 w vals hr ha => ?_
  obtain ⟨v, vs, rfl, hv, ha⟩ := ha.cons
  obtain ⟨v2, vs, rfl, hv2, ha⟩ := ha.cons
  rw [ha.nil]
  cases hv
  cases hv2
  obtain ⟨m, hm⟩ := maxLen hr.iniW
  exact (Tryz.strings_Contains s p m w hs hm).mono fun e w' ⟨he, hw⟩ => ⟨he, hw ▸ Below.refl _ _⟩
end Go.Proofs.YtamednbojpnalaaGreatDoor
set_option linter.unusedVariables false
set_option linter.unusedSimpArgs false
set_option maxRecDepth 20000
namespace Go.Vg
open Go
theorem skip_go {l : List UInt8} {n : Nat} (h : adv l = n) (hn : n ≠ 0) : skipT l = n + skipT (l.drop n) := by
  rw [skipT, dif_neg (by omega), h]
theorem skip_stop {l : List UInt8} (h : adv l = 0) : skipT l = 0 := by rw [skipT, dif_pos h]
theorem slash_prefix (c : UInt8) (r : List UInt8) : Lib.hasPrefix (c :: r) [47, 47] = (decide (c.toNat = 47) && isSlash r) := by
  have e : ∀ x : UInt8, ((47 : UInt8) == x) = decide (x.toNat = 47) := fun x => by
    rw [Bool.eq_iff_iff, beq_iff_eq, ← UInt8.toNat_inj, decide_eq_true_eq]
    exact eq_comm
  cases r with
  | nil => simp [Lib.hasPrefix, List.isPrefixOf, isSlash]
  | cons d r => simp only [Lib.hasPrefix, List.isPrefixOf, isSlash, e, Bool.and_true]
theorem index_line : ∀ l : List UInt8, Lib.indexByte l 10 = match lineLen l with | some n => (n : Int) - 1 | none => -1
  | [] => rfl
  | c :: r => by
    have ih := index_line r
    have e : (c == (10 : UInt8)) = decide (c.toNat = 10) := by
      rw [Bool.eq_iff_iff]; simp [← UInt8.toNat_inj]
    rw [Lib.indexByte, lineLen, e]
    by_cases h : c.toNat = 10
    · simp [h]
    · simp only [h, decide_false, Bool.false_eq_true, if_false]
      rw [ih]
      cases hl : lineLen r with
      | none => simp
      | some n =>
        have := lineLen_le r n hl
        have : ((n : Int) - 1 == -1) = false := by simp; omega
        simp [this]
end Go.Vg
namespace Go.Proofs.YtamednbojpnalaaGreatDoor
open Go Go.Vg Go.Proofs
theorem Tend1 (s : ByteArray) : VPure env 229 [.str s] (.tuple []) := by
  refine vpure_vc (fn := Tryz.f229) Tryz.func229 rfl (by rw [Tryz.ntmps229]; simp) rfl rfl ?_
  simp -implicitDefEqProofs only [go_sem, Tryz.f229]
theorem Twalk (s : ByteArray) (pre l : List UInt8) (hs : s.data.toList = pre ++ l) (hb : s.size ≤ 1000000000) : VPure env 228 [.str s, .int .i64 pre.length, .func 229 []] (.int .i64 (pre.length + skipT l : Nat)) := by
  refine vpure_vc (fn := Tryz.f228) Tryz.func228 rfl (by rw [Tryz.ntmps228]; simp) (by simp -implicitDefEqProofs only [go_sem]) rfl ?_
  simp -implicitDefEqProofs only [go_sem, Tryz.f228]
  refine snd_for (α := List UInt8 × List UInt8) (fun a => ⟨[(2, .func 229 []), (0, .str s), (1, .int .i64 a.1.length)], [], []⟩) (fun a => s.data.toList = a.1 ++ a.2 ∧ a.1.length + skipT a.2 = pre.length + skipT l) (fun a => a.2.length) (pre, l) ?_ ⟨hs, rfl⟩ ?_
  · simp -implicitDefEqProofs only [go_sem]
  · rintro ⟨p, q⟩ ⟨i1, i2⟩
    simp only at i1 i2
    have hzq : s.size = p.length + q.length := by rw [size_mid i1]; simp
    have hw : IntKind.i64.wrap ((p.length : Int) + 1) = ((p.length + 1 : Nat) : Int) := wrap_next (by omega)
    have hext : (s.extract (p.length : Int).toNat (s.size : Int).toNat).data.toList = q := by
      have := ext_mid (s := s) (l0 := p) (cur := q) (r := []) (by rw [i1]; simp)
      simp only [Int.toNat_natCast]
      rw [size_mid i1]; exact this
    generalize ht : s.extract (p.length : Int).toNat (s.size : Int).toNat = t at hext
    rcases q with _ | ⟨c, r⟩
    · have hlt : ((p.length : Int) < s.size) = False := by simp at hzq ⊢; omega
      have h0 : skipT [] = 0 := by rw [skipT]; simp [adv]
      simp -implicitDefEqProofs only [go_sem, hlt]
      intro _
      rw [← i2, h0]; simp
    · have hlt : ((p.length : Int) < s.size) = True := by simp at hzq ⊢; omega
      have hle : ((p.length : Int) ≤ s.size) = True := by simp; omega
      have hbl : ∀ b : blankB c = true, (p.length + 1) + skipT r = pre.length + skipT l := fun b => by
        have h1 : adv (c :: r) = 1 := by simp [adv, b]
        rw [← i2, skip_go h1 (by omega)]; simp; omega
      have hnx : s.data.toList = (p ++ [c]) ++ r := by rw [i1]; simp
      by_cases h32 : c.toNat = 32
      · have h32' : ((c.toNat : Int) = 32) = True := by simp; omega
        simp -implicitDefEqProofs only [go_sem, hlt, byteAt_mid i1, h32']
        exact fun _ => ⟨(p ++ [c], r), by simp, ⟨hnx, by simpa using hbl (by simp [blankB, h32])⟩, by rw [hw]; simp⟩
      have h32' : ((c.toNat : Int) = 32) = False := by simp; omega
      by_cases h9 : c.toNat = 9
      · have h9' : ((c.toNat : Int) = 9) = True := by simp; omega
        simp -implicitDefEqProofs only [go_sem, hlt, byteAt_mid i1, h32', h9']
        exact fun _ => ⟨(p ++ [c], r), by simp, ⟨hnx, by simpa using hbl (by simp [blankB, h9])⟩, by rw [hw]; simp⟩
      have h9' : ((c.toNat : Int) = 9) = False := by simp; omega
      by_cases h10 : c.toNat = 10
      · have h10' : ((c.toNat : Int) = 10) = True := by simp; omega
        simp -implicitDefEqProofs only [go_sem, hlt, byteAt_mid i1, h32', h9', h10']
        exact fun _ => ⟨(p ++ [c], r), by simp, ⟨hnx, by simpa using hbl (by simp [blankB, h10])⟩, by rw [hw]; simp⟩
      have h10' : ((c.toNat : Int) = 10) = False := by simp; omega
      have hnb : blankB c = false := by simp [blankB, h32, h9, h10]
      simp -implicitDefEqProofs only [go_sem, hlt, hle, byteAt_mid i1, h32', h9', h10', ht]
      refine fun _ => ⟨by omega, (HasPrefix _ _).calls rfl ?_⟩
      rw [hext, show (⟨#[47, 47]⟩ : ByteArray).data.toList = [47, 47] from rfl, slash_prefix]
      cases hp : (decide (c.toNat = 47) && isSlash r)
      · simp -implicitDefEqProofs only [go_sem]
        rw [← i2, skip_stop (by simp only [adv, hnb, hp, Bool.false_eq_true, if_false])]; simp
      · have hadv : adv (c :: r) = (lineLen (c :: r)).getD 0 := by simp only [adv, hnb, hp, Bool.false_eq_true, if_false, if_true]
        simp -implicitDefEqProofs only [go_sem, hle, ht]
        refine ⟨by omega, (IndexByte _ _).calls rfl ?_⟩
        rw [hext, show (10 : Int).toNat.toUInt8 = 10 from rfl, index_line]
        cases hl : lineLen (c :: r) with
        | none =>
          simp -implicitDefEqProofs only [go_sem]
          rw [← i2, skip_stop (by rw [hadv, hl]; rfl)]; simp
        | some n =>
          have hn := lineLen_le _ _ hl
          simp only []
          have hw2 : IntKind.i64.wrap ((p.length : Int) + ((n : Int) - 1)) = (p.length : Int) + ((n : Int) - 1) := wrap_ok (by omega) (by omega)
          have hn0 : ((n : Int) - 1 < 0) = False := by simp; omega
          simp -implicitDefEqProofs only [go_sem, hn0, hw2]
          refine ⟨by omega, (Tend1 _).calls rfl ?_⟩
          simp -implicitDefEqProofs only [go_sem]
          refine ⟨(p ++ (c :: r).take n, (c :: r).drop n), ?_, ⟨by rw [i1]; simp, ?_⟩, ?_⟩
          · simp only [List.length_drop, List.length_cons] at hn ⊢; omega
          · have : skipT (c :: r) = n + skipT ((c :: r).drop n) := skip_go (by rw [hadv, hl]; rfl) (by omega)
            have hl2 : (p ++ (c :: r).take n).length = p.length + n := by rw [List.length_append, List.length_take]; omega
            simp only []
            rw [hl2]; omega
          · have hl2 : (p ++ (c :: r).take n).length = p.length + n := by rw [List.length_append, List.length_take]; omega
            simp only []
            rw [hl2, wrap_ok (x := (n : Int) - 1 + 1) (by omega) (by omega), wrap_ok (by omega) (by omega)]; omega
theorem Tend (s : ByteArray) (hb : s.size ≤ 1000000000) : VPure env 209 [.str s, .int .i64 0] (.int .i64 (skipT s.data.toList : Nat)) := by
  refine vpure_vc (fn := Tryz.f209) Tryz.func209 rfl (by rw [Tryz.ntmps209]; simp) rfl rfl ?_
  have hz : ((s.size : Int) < 0) = False := by simp
  simp -implicitDefEqProofs only [go_sem, Tryz.f209, hz]
  intro _
  have h := Twalk s [] s.data.toList rfl hb
  simp only [List.length_nil, Nat.zero_add] at h
  refine VPure.calls h rfl ?_
  simp -implicitDefEqProofs only [go_sem]
theorem TValid (s : ByteArray) (hb : s.size ≤ 1000000000) : VPure env 158 [.str s] (.bool (triviaB s)) := by
  refine vpure_vc (fn := Tryz.f158) Tryz.func158 rfl (by rw [Tryz.ntmps158]; simp) rfl rfl ?_
  simp -implicitDefEqProofs only [go_sem, Tryz.f158]
  refine (Tend s hb).calls rfl ?_
  simp -implicitDefEqProofs only [go_sem]
  intro _
  unfold triviaB
  congr 1
  by_cases e : skipT s.data.toList = s.size
  · simp [e]
  · rw [decide_eq_false e]; simp; omega
end Go.Proofs.YtamednbojpnalaaGreatDoor
set_option linter.unusedVariables false
set_option linter.unusedSimpArgs false
set_option maxRecDepth 20000
namespace Go.Vg
def spelledG (k : Int) (t : ByteArray) : Bool := if (shp k).text = 0 then decide (t = ⟨#[]⟩) else if (shp k).text = 4 then (shp k).words.any (fun w => decide (w = t)) else true
def calledG (k : Int) (t : ByteArray) : Bool := if (shp k).text = 2 then (decide (t = ⟨#[]⟩) || validName t) else if (shp k).text = 1 then validName t else if (shp k).text = 3 then intB t else true
def gapsG (n : Nd) : Bool := decide (n.gaps.length = 0) || (n.gaps.all triviaB && decide ((n.gaps.length : Int) = n.own))
def idxL : List ByteArray → ByteArray → Nat → Int
  | [], _, _ => -1
  | w :: r, s, i => if w = s then i else idxL r s (i + 1)
theorem idxL_any (s : ByteArray) : ∀ (l : List ByteArray) (i : Nat), decide (0 ≤ idxL l s i) = l.any fun w => decide (w = s)
  | [], _ => rfl
  | w :: r, i => by
    rw [idxL, List.any_cons, ← idxL_any s r (i + 1)]
    by_cases h : w = s
    · simp [h]
    · simp [h]
theorem bytesV_mid {s : ByteArray} {pre post : List UInt8} {x : UInt8} (h : s.data.toList = pre ++ x :: post) : (bytesV s).getD (pre.length : Int).toNat [] = [.int .u8 x.toNat] := by
  simp [bytesV, h, List.getD_eq_getElem?_getD]
theorem bytesV_len {s : ByteArray} : (bytesV s).length = s.size := by simp [bytesV]
end Go.Vg
namespace Go.Proofs.YtamednbojpnalaaGreatDoor
open Go Go.Vg Go.Proofs
theorem SIndex (l : List ByteArray) (s : ByteArray) : VPure env 203 [sl 9 (l.map encS), .str s] (.int .i64 (idxL l s 0)) := by
  refine vpure_vc (fn := Tryz.f203) Tryz.func203 rfl (by rw [Tryz.ntmps203]; simp) (by simp -implicitDefEqProofs only [go_sem]) rfl ?_
  simp -implicitDefEqProofs only [go_sem, Tryz.f203]
  intro _ _
  refine snd_list (β := Unit) l (fun pre _ => ⟨[(8, .int .i64 pre.length), (7, .int .i64 l.length), (6, sl 9 (l.map encS)), (4, .int .i64 0), (0, sl 9 (l.map encS)), (1, .str s)], [], []⟩) (fun pre post _ => idxL l s 0 = idxL post s pre.length) () ?_ rfl ?_ ?_
  · simp -implicitDefEqProofs only [go_sem]
    rfl
  · intro _ hi
    simp -implicitDefEqProofs only [go_sem]
    rw [hi]; rfl
  · intro pre x post _ hx hi
    have hpl : l.length = pre.length + 1 + post.length := by rw [hx]; simp; omega
    have hgx : (l.map encS).getD (pre.length : Int).toNat [] = [V.str x] := by rw [hx]; simp [List.getD_eq_getElem?_getD, encS]
    have hw : IntKind.i64.wrap (↑pre.length + 1) = ↑(pre.length + 1) := wrap_next (by omega)
    have hlt : ((pre.length : Int) < l.length) = True := by simp; omega
    rw [hi, idxL]
    simp -implicitDefEqProofs only [go_sem, hgx, hlt]
    refine ⟨fun h => by rw [if_pos h.symm], fun h => ⟨(), by rw [if_neg (Ne.symm h)], hw⟩⟩
theorem SContains (l : List ByteArray) (s : ByteArray) : VPure env 150 [sl 9 (l.map encS), .str s] (.bool (l.any fun w => decide (w = s))) := by
  refine vpure_vc (fn := Tryz.f150) Tryz.func150 rfl (by rw [Tryz.ntmps150]; simp) (by simp -implicitDefEqProofs only [go_sem]) rfl ?_
  simp -implicitDefEqProofs only [go_sem, Tryz.f150]
  refine (SIndex l s).calls (by simp -implicitDefEqProofs only [go_sem]) ?_
  rw [← idxL_any s l 0]
  simp -implicitDefEqProofs only [go_sem]
theorem Gspelled (k : Int) (t : ByteArray) (g : List ByteArray) (ks : List Nd) (hk : 1 ≤ k ∧ k < 27) : VPure env 120 [.agg (Nd.mk k t g ks).enc] (.bool (spelledG k t)) := by
  have hd := shapes_drop (k := k) (by omega) hk.2
  refine vpure_vc (fn := Tryz.f120) Tryz.func120 rfl (by rw [Tryz.ntmps120]; simp) (by simp -implicitDefEqProofs only [go_sem]) rfl ?_
  simp -implicitDefEqProofs only [go_sem, Tryz.f120, hd, Shp.enc, List.cons_append, List.nil_append]
  refine ⟨by omega, fun h0 => by simp [spelledG, h0], fun h0 => ⟨fun h4 => ?_, fun h4 => by simp [spelledG, h0, h4]⟩⟩
  refine (SContains (shp k).words t).calls (by simp -implicitDefEqProofs only [go_sem]) ?_
  simp -implicitDefEqProofs only [go_sem]
  simp [spelledG, h0, h4]
theorem Ginteger (s : ByteArray) : VPure env 157 [.str s] (.bool (intB s)) := by
  refine vpure_vc (fn := Tryz.f157) Tryz.func157 rfl (by rw [Tryz.ntmps157]; simp) rfl rfl ?_
  simp -implicitDefEqProofs only [go_sem, Tryz.f157]
  refine ⟨fun a1 hs => ⟨fun a2 _ => ?_, fun a2 => by simp [intB, a2]⟩, fun a1 => by subst a1; rfl⟩
  have a1' : ¬ ((s.size : Int) = 0) := fun h => a1 (ba_ext (List.eq_nil_of_length_eq_zero (by rw [← size_list]; omega)))
  refine ⟨fun a3 => ⟨by omega, fun a4 => by simp [intB, a3, a4], fun a4 => ⟨by omega, fun _ _ => ?_⟩⟩, fun a3 => ⟨by omega, fun _ _ => ?_⟩⟩
  all_goals
    refine snd_list (β := Int) s.data.toList (fun pre n => ⟨[(26, .int .i64 pre.length), (25, .int .i64 s.size), (24, sl 5 (bytesV s)), (3, .int .i64 n), (0, .str s)], [], []⟩)
      (fun pre post n => (pre.all fun c => digitB c.toNat) = true ∧ digitsV post n = digitsV s.data.toList 0 ∧ 0 ≤ n ∧ n.toNat < 10 ^ pre.length) 0 ?_ ?_ ?_ ?_
    · simp -implicitDefEqProofs only [go_sem, bytesV_len]
      try trivial
    · simp
    · rintro n ⟨i1, i2, i3, i4⟩
      have hlt : ((s.data.toList.length : Int) < s.size) = False := by rw [size_list]; simp
      simp -implicitDefEqProofs only [go_sem, hlt]
      have hd : digitsV s.data.toList 0 = n := by rw [← i2]; rfl
      unfold intB
      rw [i1, hd]
      simp_all
    · rintro pre x post n hx ⟨i1, i2, i3, i4⟩
      have hz := size_mid hx
      have hlt : ((pre.length : Int) < s.size) = True := by rw [hz]; simp; omega
      simp -implicitDefEqProofs only [go_sem, hlt, bytesV_mid hx]
      have hno : digitB (x.toNat : Int) = false → V.bool false = V.bool (intB s) := by
        intro hf
        have : (s.data.toList.all fun c => digitB c.toNat) = false := by rw [hx]; simp [hf]
        unfold intB
        rw [this]; simp
      refine ⟨by rw [bytesV_len, hz]; simp; omega, fun c => ⟨fun d => hno (by unfold digitB; simp; omega), fun d => ?_⟩, fun c => hno (by unfold digitB; simp; omega)⟩
      have hp : pre.length ≤ 12 := by rw [hz] at a2; simp at a2; omega
      have h10 : (10 : Nat) ^ pre.length ≤ 10 ^ 12 := Nat.pow_le_pow_right (by decide) hp
      have h12 : (10 : Nat) ^ 12 = 1000000000000 := by decide
      rw [h12] at h10
      have hdig : digitB (x.toNat : Int) = true := by unfold digitB; simp; omega
      refine ⟨10 * n + ((x.toNat : Int) - 48), ⟨by simp [i1, hdig], by rw [← i2]; rfl, by omega, ?_⟩, wrap_next (by omega), ?_⟩
      · rw [Nat.pow_succ]; omega
      · rw [wrap8 (by omega) (by omega), wrap_ok (x := n * 10) (by omega) (by omega), wrap_ok (x := (x.toNat : Int) - 48) (by omega) (by omega), wrap_ok (by omega) (by omega)]; omega
theorem Gcalled (k : Int) (t : ByteArray) (g : List ByteArray) (ks : List Nd) (hk : 1 ≤ k ∧ k < 27) : VPure env 122 [.agg (Nd.mk k t g ks).enc] (.bool (calledG k t)) := by
  have hd := shapes_drop (k := k) (by omega) hk.2
  refine vpure_vc (fn := Tryz.f122) Tryz.func122 rfl (by rw [Tryz.ntmps122]; simp) (by simp -implicitDefEqProofs only [go_sem]) rfl ?_
  simp -implicitDefEqProofs only [go_sem, Tryz.f122, hd, Shp.enc, List.cons_append, List.nil_append]
  refine ⟨by omega, fun h2 => ⟨fun ht => by simp [calledG, h2, ht], fun ht => ?_⟩, fun h2 => ⟨fun h1 => ?_, fun h1 => ⟨fun h3 => ?_, fun h3 => by simp [calledG, h1, h2, h3]⟩⟩⟩
  · refine (NValid t).calls rfl ?_
    simp -implicitDefEqProofs only [go_sem]
    simp [calledG, h2, ht]
  · refine (NValid t).calls rfl ?_
    simp -implicitDefEqProofs only [go_sem]
    simp [calledG, h1]
  · refine (Ginteger t).calls rfl ?_
    simp -implicitDefEqProofs only [go_sem]
    simp [calledG, h3]
theorem Ggaps (n : Nd) (hk : 1 ≤ n.kind ∧ n.kind < 27) (hg : ∀ s ∈ n.gaps, s.size ≤ 1000000000) : VPure env 123 [.agg n.enc] (.bool (gapsG n)) := by
  obtain ⟨k, t, g, ks⟩ := n
  refine vpure_vc (fn := Tryz.f123) Tryz.func123 rfl (by rw [Tryz.ntmps123]; simp) (by simp -implicitDefEqProofs only [go_sem]) rfl ?_
  simp -implicitDefEqProofs only [go_sem, Tryz.f123]
  intro _ _
  refine ⟨fun h0 => by simp [gapsG, Nd.gaps]; left; simpa using h0, fun h0 _ _ => ?_⟩
  refine snd_list (β := Unit) g (fun pre _ => ⟨[(12, .int .i64 pre.length), (11, .int .i64 g.length), (10, sl 9 (g.map encS)), (1, .ptr 0 0), (2, .bool false)], [VObj.cells (Nd.mk k t g ks).enc], []⟩) (fun pre post _ => pre.all triviaB = true) () ?_ rfl ?_ ?_
  · simp -implicitDefEqProofs only [go_sem]
    try trivial
  · intro _ hi
    simp -implicitDefEqProofs only [go_sem]
    refine snd_draw (cs := []) mixed (by kernel_rfl) ?_
    simp -implicitDefEqProofs only [go_sem]
    refine vPC_of (GOwn k t g ks hk) (by simp -implicitDefEqProofs only [go_sem]) ?_
    simp -implicitDefEqProofs only [go_sem]
    have hne : g ≠ [] := by rintro rfl; simp at h0
    have e : gapsG (.mk k t g ks) = decide ((g.length : Int) = (Nd.mk k t g ks).own) := by
      have h1 : ((Nd.mk k t g ks).gaps.length = 0) = False := by simp [Nd.gaps, hne]
      unfold gapsG
      simp only [h1, decide_false, Bool.false_or]
      rw [show (Nd.mk k t g ks).gaps = g from rfl, hi]; rfl
    rw [e]
  · intro pre x post _ hx hi
    have hpl : g.length = pre.length + 1 + post.length := by rw [hx]; simp; omega
    have hgx : (g.map encS).getD (pre.length : Int).toNat [] = [V.str x] := by rw [hx]; simp [List.getD_eq_getElem?_getD, encS]
    have hw : IntKind.i64.wrap (↑pre.length + 1) = ↑(pre.length + 1) := wrap_next (by omega)
    have hlt : ((pre.length : Int) < g.length) = True := by simp; omega
    simp -implicitDefEqProofs only [go_sem, hgx, hlt]
    have hxg : x.size ≤ 1000000000 := hg x (by rw [show (Nd.mk k t g ks).gaps = g from rfl, hx]; simp)
    refine (TValid x hxg).calls rfl ?_
    simp -implicitDefEqProofs only [go_sem]
    refine ⟨fun h => ?_, fun h => ⟨(), by simp_all, hw⟩⟩
    have : g.all triviaB = false := by rw [hx]; simp_all
    simp [gapsG, Nd.gaps, this]
    try (intro e; subst e; simp at hx)
end Go.Proofs.YtamednbojpnalaaGreatDoor
