/- The reference reads what was written; and so what the program reads. -/
import Derived.Test.YtellnbgljmocgaaGreatDoorTpG
set_option linter.unusedVariables false
set_option linter.unusedSimpArgs false
namespace Go.Vg
open Go Go.Lib
theorem splitL_sep (c : UInt8) : ∀ l : List UInt8, splitL c (l ++ [c]) = splitL c l ++ [[]]
  | [] => by simp [splitL]
  | x :: r => by
    have ih := splitL_sep c r
    rw [List.cons_append, splitL, splitL, ih]
    by_cases h : x = c
    · simp [h]
    · rw [if_neg h, if_neg h]
      cases hs : splitL c r with
      | nil => exact absurd hs (splitL_ne c r)
      | cons a t => rfl
theorem splitL_more {c y : UInt8} (hy : y ≠ c) : ∀ (l : List UInt8) (out : List (List UInt8)) (p : List UInt8), splitL c l = out ++ [p] → splitL c (l ++ [y]) = out ++ [p ++ [y]]
  | [], out, p, h => by
    have : out = [] ∧ p = [] := by
      cases out with
      | nil => simp [splitL] at h; exact ⟨rfl, h⟩
      | cons a t => simp [splitL] at h
    obtain ⟨rfl, rfl⟩ := this
    simp [splitL, hy]
  | x :: r, out, p, h => by
    rw [splitL] at h
    rw [List.cons_append, splitL]
    by_cases hx : x = c
    · rw [if_pos hx] at h ⊢
      cases out with
      | nil =>
        simp at h
        exact absurd h.2 (splitL_ne c r)
      | cons a t =>
        simp at h
        obtain ⟨rfl, h2⟩ := h
        rw [splitL_more hy r t p h2]
        rfl
    · rw [if_neg hx] at h ⊢
      cases hs : splitL c r with
      | nil => exact absurd hs (splitL_ne c r)
      | cons a t =>
        rw [hs] at h
        simp only at h
        cases out with
        | nil =>
          simp at h
          obtain ⟨rfl, rfl⟩ := h
          rw [splitL_more hy r [] a (by rw [hs]; rfl)]
          rfl
        | cons a' t' =>
          simp at h
          obtain ⟨rfl, rfl⟩ := h
          rw [splitL_more hy r (a :: t') p (by rw [hs]; rfl)]
          rfl
/-- The reference's number: digit by digit, in 64 bits. -/
def stepI (n c : Int) : Int := IntKind.i64.wrap (IntKind.i64.wrap (n * 10) + IntKind.i64.wrap (IntKind.u8.wrap (c - 48)))
def foldI (l : List UInt8) (n : Int) : Int := l.foldl (fun n c => if digitB c.toNat then stepI n c.toNat else n) n
def intR (s : ByteArray) : Int := if s ≠ ⟨#[]⟩ ∧ byteAt s 0 = 45 then IntKind.i64.wrap (0 - foldI (str s) 0) else foldI (str s) 0
theorem wrap_lo (z : Int) : (∃ k : Int, IntKind.i64.wrap z = z + k * 18446744073709551616) ∧ -9223372036854775808 ≤ IntKind.i64.wrap z ∧ IntKind.i64.wrap z ≤ 9223372036854775807 := by
  have h := Int.emod_add_mul_ediv z 18446744073709551616
  have h0 := Int.emod_nonneg z (b := 18446744073709551616) (by decide)
  have h1 := Int.emod_lt_of_pos z (b := 18446744073709551616) (by decide)
  have e : IntKind.i64.wrap z = if 9223372036854775808 ≤ z % 18446744073709551616 then z % 18446744073709551616 - 18446744073709551616 else z % 18446744073709551616 := by
    show (if (true && decide (z % 18446744073709551616 ≥ 9223372036854775808)) = true then _ else _) = _
    simp only [Bool.true_and, decide_eq_true_eq, ge_iff_le]
    rfl
  rw [e]
  generalize z % 18446744073709551616 = m at *
  generalize z / 18446744073709551616 = q at *
  split
  · exact ⟨⟨-q - 1, by omega⟩, by omega, by omega⟩
  · exact ⟨⟨-q, by omega⟩, by omega, by omega⟩
theorem wrap_same {a b : Int} (h : ∃ k : Int, a = b + k * 18446744073709551616) (h0 : -9223372036854775808 ≤ b) (h1 : b ≤ 9223372036854775807) : IntKind.i64.wrap a = b := by
  obtain ⟨⟨k, hk⟩, l0, l1⟩ := wrap_lo a
  obtain ⟨j, hj⟩ := h
  omega
def valI (l : List UInt8) (n : Int) : Int := l.foldl (fun n c => n * 10 + (c.toNat - 48)) n
theorem step_eq {n c : Int} (h0 : 48 ≤ c) (h1 : c ≤ 57) : ∃ k : Int, stepI n c = n * 10 + (c - 48) + k * 18446744073709551616 := by
  have e1 : IntKind.u8.wrap (c - 48) = c - 48 := by
    have e : IntKind.u8.wrap (c - 48) = (c - 48) % 256 := rfl
    rw [e]
    omega
  have e2 : IntKind.i64.wrap (c - 48) = c - 48 := Go.Vg.wrap_small (by omega) (by omega)
  obtain ⟨⟨k1, q1⟩, _, _⟩ := wrap_lo (n * 10)
  obtain ⟨⟨k2, q2⟩, _, _⟩ := wrap_lo (IntKind.i64.wrap (n * 10) + (c - 48))
  refine ⟨k1 + k2, ?_⟩
  rw [stepI, e1, e2, q2, q1]
  omega
theorem fold_val : ∀ (l : List UInt8) (n m : Int), (∀ c ∈ l, digitB c.toNat = true) → (∃ k : Int, n = m + k * 18446744073709551616) → ∃ k : Int, foldI l n = valI l m + k * 18446744073709551616
  | [], n, m, _, h => h
  | c :: r, n, m, hd, ⟨k, hk⟩ => by
    have hc := hd c (by simp)
    have hb : 48 ≤ (c.toNat : Int) ∧ (c.toNat : Int) ≤ 57 := by simpa [digitB] using hc
    obtain ⟨j, hj⟩ := step_eq (n := n) hb.1 hb.2
    have e : foldI (c :: r) n = foldI r (stepI n c.toNat) := by
      show List.foldl _ _ _ = _
      rw [List.foldl_cons]
      simp only [hc, if_true]
      rfl
    rw [e]
    exact fold_val r _ (m * 10 + (c.toNat - 48)) (fun x hx => hd x (by simp [hx])) ⟨k * 10 + j, by rw [hj, hk]; omega⟩
theorem fold_range : ∀ (l : List UInt8) (n : Int), -9223372036854775808 ≤ n ∧ n ≤ 9223372036854775807 → -9223372036854775808 ≤ foldI l n ∧ foldI l n ≤ 9223372036854775807
  | [], n, h => h
  | c :: r, n, h => by
    have e : foldI (c :: r) n = foldI r (if digitB c.toNat then stepI n c.toNat else n) := rfl
    rw [e]
    refine fold_range r _ ?_
    split
    · exact (wrap_lo _).2
    · exact h
theorem intR_range (s : ByteArray) : -9223372036854775808 ≤ intR s ∧ intR s ≤ 9223372036854775807 := by
  unfold intR
  split
  · exact (wrap_lo _).2
  · exact fold_range _ _ ⟨by decide, by decide⟩
theorem valI_dec (u : Nat) : valI (decDigits u) 0 = u := by
  induction u using Nat.strongRecOn with
  | _ u ih =>
  rw [decDigits]
  split
  · rename_i h
    have := dig_nat h
    simp only [valI, List.foldl_cons, List.foldl_nil, this]
    omega
  · rename_i h
    have := dig_nat (k := u % 10) (by omega)
    have ih' := ih (u / 10) (by omega)
    unfold valI at ih' ⊢
    rw [List.foldl_append, ih']
    simp only [List.foldl_cons, List.foldl_nil, this]
    omega
theorem dec_digit (u : Nat) : ∀ c ∈ decDigits u, digitB c.toNat = true := fun c hc => by
  have := dec_all u c hc
  simp only [digitB, Bool.and_eq_true, decide_eq_true_eq]
  omega
theorem intR_itoa {n : Int} (h0 : -9223372036854775808 ≤ n) (h1 : n ≤ 9223372036854775807) : intR (itoaB n) = n := by
  have hs : str (itoaB n) = itoa n := rfl
  have hne := itoa_ne n
  by_cases hn : n < 0
  · have e : itoa n = 45 :: decDigits n.natAbs := by unfold itoa; rw [if_pos hn]
    have hb : byteAt (itoaB n) 0 = 45 := by rw [byteAt_zero (x := 45) (r := decDigits n.natAbs) (by exact e)]; rfl
    rw [intR, if_pos ⟨hne, hb⟩, hs, e]
    have e2 : foldI (45 :: decDigits n.natAbs) 0 = foldI (decDigits n.natAbs) 0 := rfl
    rw [e2]
    obtain ⟨k, hk⟩ := fold_val (decDigits n.natAbs) 0 0 (dec_digit _) ⟨0, by omega⟩
    rw [valI_dec] at hk
    refine wrap_same ⟨-k, ?_⟩ h0 h1
    rw [hk]; omega
  · have e : itoa n = decDigits n.toNat := by unfold itoa; rw [if_neg hn]
    have hb : byteAt (itoaB n) 0 ≠ 45 := by
      have hne2 := dec_ne n.toNat
      cases hd : decDigits n.toNat with
      | nil => exact absurd hd hne2
      | cons c r =>
        have := dec_all n.toNat c (by rw [hd]; simp)
        rw [byteAt_zero (x := c) (r := r) (by show itoa n = _; rw [e, hd])]
        omega
    rw [intR, if_neg (fun h => hb h.2), hs, e]
    obtain ⟨k, hk⟩ := fold_val (decDigits n.toNat) 0 0 (dec_digit _) ⟨0, by omega⟩
    have hr := fold_range (decDigits n.toNat) 0 ⟨by decide, by decide⟩
    rw [valI_dec] at hk
    omega
end Go.Vg
set_option linter.unusedVariables false
set_option linter.unusedSimpArgs false
namespace Go.Vg
open Go Go.Lib
def setR (r : Rf) (key v : ByteArray) : Rf :=
  if key = ⟨#[112, 97, 116, 104]⟩ then { r with path := v }
  else if key = ⟨#[99, 108, 97, 115, 115]⟩ then { r with cls := v }
  else if key = ⟨#[102, 117, 110, 99]⟩ then { r with fn := v }
  else if key = ⟨#[110, 97, 109, 101]⟩ then { r with name := v }
  else if key = ⟨#[116, 111]⟩ then { r with new := v }
  else if key = ⟨#[110, 111, 100, 101]⟩ then { r with node := intR v }
  else if key = ⟨#[112, 111, 115]⟩ then { r with pos := intR v }
  else if key = ⟨#[111, 114, 100, 101, 114]⟩ then { r with order := r.order ++ ((commas v).take 17).map intR }
  else if key = ⟨#[116, 121, 112, 101, 115]⟩ then { r with types := commas v }
  else if key = ⟨#[116, 101, 120, 116, 115]⟩ then { r with texts := (commas v).map (swapB 126 32) }
  else r
theorem setR_path {r : Rf} {v : ByteArray} : setR r ⟨#[112, 97, 116, 104]⟩ v = { r with path := v } := rfl
theorem setR_class {r : Rf} {v : ByteArray} : setR r ⟨#[99, 108, 97, 115, 115]⟩ v = { r with cls := v } := rfl
theorem setR_func {r : Rf} {v : ByteArray} : setR r ⟨#[102, 117, 110, 99]⟩ v = { r with fn := v } := rfl
theorem setR_name {r : Rf} {v : ByteArray} : setR r ⟨#[110, 97, 109, 101]⟩ v = { r with name := v } := rfl
theorem setR_to {r : Rf} {v : ByteArray} : setR r ⟨#[116, 111]⟩ v = { r with new := v } := rfl
theorem setR_node {r : Rf} {v : ByteArray} : setR r ⟨#[110, 111, 100, 101]⟩ v = { r with node := intR v } := rfl
theorem setR_pos {r : Rf} {v : ByteArray} : setR r ⟨#[112, 111, 115]⟩ v = { r with pos := intR v } := rfl
theorem setR_order {r : Rf} {v : ByteArray} : setR r ⟨#[111, 114, 100, 101, 114]⟩ v = { r with order := r.order ++ ((commas v).take 17).map intR } := rfl
theorem setR_types {r : Rf} {v : ByteArray} : setR r ⟨#[116, 121, 112, 101, 115]⟩ v = { r with types := commas v } := rfl
theorem setR_texts {r : Rf} {v : ByteArray} : setR r ⟨#[116, 101, 120, 116, 115]⟩ v = { r with texts := (commas v).map (swapB 126 32) } := rfl
def fldR (r : Rf) (f : ByteArray) : Rf := if (cutB 61 f).1.size < f.size then setR r (cutB 61 f).1 (cutB 61 f).2 else r
def candR (s : ByteArray) : Rf := match spaces s with
  | [] => kindRf 0
  | w :: l => l.foldl fldR (kindRf (kindOf w))
def parseR (s : ByteArray) : Option Rf := if rfErr (candR s) = 0 ∧ rfText (candR s) = s then some (candR s) else none
/-! ### Bounds -/
structure Rf.fit (r : Rf) (n : Nat) : Prop where
  s1 : r.path.size ≤ 900000
  s2 : r.cls.size ≤ 900000
  s3 : r.fn.size ≤ 900000
  s4 : r.name.size ≤ 900000
  s5 : r.new.size ≤ 900000
  n1 : -9223372036854775808 ≤ r.node ∧ r.node ≤ 9223372036854775807
  n3 : -9223372036854775808 ≤ r.pos ∧ r.pos ≤ 9223372036854775807
  n5 : ∀ n ∈ r.order, -9223372036854775808 ≤ n ∧ n ≤ 9223372036854775807
  l1 : r.order.length ≤ 17 * n
  l2 : r.types.length ≤ 900001
  l3 : r.texts.length ≤ 900001
  t1 : ∀ s ∈ r.types, s.size ≤ 900000
  t2 : ∀ s ∈ r.texts, s.size ≤ 900000
theorem setR_fit {r : Rf} {n : Nat} (h : r.fit n) (k v : ByteArray) (hv : v.size ≤ 900000) : (setR r k v).fit (n + 1) := by
  have hc := commas_len v
  have hm := commas_mem v
  have ha := intR_range v
  obtain ⟨s1, s2, s3, s4, s5, n1, n3, n5, l1, l2, l3, t1, t2⟩ := h
  have hm1 : ∀ x ∈ commas v, x.size ≤ 900000 := fun x hx => by have := hm x hx; omega
  unfold setR
  repeat' split
  all_goals (refine ⟨?_, ?_, ?_, ?_, ?_, ?_, ?_, ?_, ?_, ?_, ?_, ?_, ?_⟩ <;> first | assumption | (simp only; omega) | omega | exact ha | skip)
  · intro m hx
    rcases List.mem_append.1 hx with hx | hx
    · exact n5 m hx
    · obtain ⟨x, _, rfl⟩ := List.mem_map.1 hx
      exact intR_range x
  · simp only [List.length_append, List.length_map, List.length_take]; omega
  · simp only [List.length_map]; omega
  · intro x hx
    obtain ⟨y, hy, rfl⟩ := List.mem_map.1 hx
    rw [swapZ]
    exact hm1 y hy
theorem fit_mono {r : Rf} {n m : Nat} (h : r.fit n) (hn : n ≤ m) : r.fit m := by
  obtain ⟨s1, s2, s3, s4, s5, n1, n3, n5, l1, l2, l3, t1, t2⟩ := h
  exact ⟨s1, s2, s3, s4, s5, n1, n3, n5, by omega, l2, l3, t1, t2⟩
theorem fldR_fit {r : Rf} {n : Nat} (h : r.fit n) (f : ByteArray) (hf : f.size ≤ 900000) : (fldR r f).fit (n + 1) := by
  have := cutB_size 61 f
  unfold fldR
  split
  · exact setR_fit h _ _ (by omega)
  · exact fit_mono h (by omega)
theorem folds_fit : ∀ (l : List ByteArray) (r : Rf) (n : Nat), r.fit n → (∀ x ∈ l, x.size ≤ 900000) → (l.foldl fldR r).fit (n + l.length)
  | [], r, n, h, _ => h
  | f :: l, r, n, h, hl => by
    have := folds_fit l (fldR r f) (n + 1) (fldR_fit h f (hl f (by simp))) fun x hx => hl x (by simp [hx])
    rw [List.foldl_cons, List.length_cons, show n + (l.length + 1) = n + 1 + l.length by omega]
    exact this
theorem kindRf_fit (n : Int) : (kindRf n).fit 0 := ⟨Nat.zero_le _, Nat.zero_le _, Nat.zero_le _, Nat.zero_le _, Nat.zero_le _, by simp [kindRf], by simp [kindRf], by simp [kindRf], by simp [kindRf], by simp [kindRf], by simp [kindRf], by simp [kindRf], by simp [kindRf]⟩
theorem fit_ok {r : Rf} {n : Nat} (h : r.fit n) (hn : n ≤ 500000) : r.ok := by
  obtain ⟨s1, s2, s3, s4, s5, n1, n3, n5, l1, l2, l3, t1, t2⟩ := h
  exact ⟨by omega, by omega, by omega, by omega, by omega, n1.1, n1.2, n3.1, n3.2, n5, by omega, by omega, by omega, fun s hs => by have := t1 s hs; omega, fun s hs => by have := t2 s hs; omega⟩
theorem spaces_len (v : ByteArray) : (spaces v).length ≤ v.size + 1 := by
  unfold spaces
  rw [List.length_map, ← str_len]
  exact splitL_len 32 (str v)
theorem candR_ok {s : ByteArray} (hs : s.size ≤ 400000) : (candR s).ok := by
  have hm := spaces_mem s
  have hl := spaces_len s
  unfold candR
  cases hw : spaces s with
  | nil => exact fit_ok (kindRf_fit 0) (by omega)
  | cons w l =>
    rw [hw] at hm hl
    simp only [List.length_cons] at hl
    exact fit_ok (folds_fit l _ 0 (kindRf_fit _) fun x hx => by have := hm x (by simp [hx]); omega) (by omega)
/-! ### What is printed is read -/
theorem stepR {k v : ByteArray} (hk : (61 : UInt8) ∉ str k) (hv : v ≠ ⟨#[]⟩) (l : List ByteArray) (r : Rf) : (fldB k v ++ l).foldl fldR r = l.foldl fldR (setR r k v) := by
  have hc : cutB 61 (toB (str k ++ 61 :: str v)) = (k, v) := by
    unfold cutB
    have : str (toB (str k ++ 61 :: str v)) = str k ++ 61 :: str v := rfl
    rw [this, cutL_app _ hk]
    exact congr (congrArg Prod.mk (toB_of k)) (toB_of v)
  have hz : k.size < (toB (str k ++ 61 :: str v)).size := by
    rw [← str_len, ← str_len]
    have : str (toB (str k ++ 61 :: str v)) = str k ++ 61 :: str v := rfl
    rw [this, List.length_append, List.length_cons]
    omega
  rw [fldB, if_neg hv, List.cons_append, List.nil_append, List.foldl_cons]
  congr 1
  rw [fldR, hc, if_pos hz]
theorem stepR0 (k : ByteArray) (l : List ByteArray) (r : Rf) : (fldB k ⟨#[]⟩ ++ l).foldl fldR r = l.foldl fldR r := by rw [fldB, if_pos rfl]; rfl
theorem set_fieldsR {r : Rf} (h : r.good) (hl : r.order.length ≤ 16) (ht : ∀ x ∈ r.types, validName x = true) (hx : ∀ x ∈ r.texts, fineB x = true) : (((kvs r).map fun p => fldB p.1 p.2).flatten).foldl fldR (kindRf r.kind) = r := by
  obtain ⟨k, a1, a2, a3, a4, a5, n, p, o, t, x⟩ := r
  obtain ⟨n1, n2, n3, n4, n5⟩ := h
  simp only at n1 n2 n3 n4 n5 ht hx hl
  simp only [kvs, List.map_cons, List.map_nil, List.flatten_cons, List.flatten_nil, kindRf]
  have s1 : ∀ l, (fldB ⟨#[112, 97, 116, 104]⟩ a1 ++ l).foldl fldR ⟨k, ⟨#[]⟩, ⟨#[]⟩, ⟨#[]⟩, ⟨#[]⟩, ⟨#[]⟩, 0, 0, [], [], []⟩ = l.foldl fldR ⟨k, a1, ⟨#[]⟩, ⟨#[]⟩, ⟨#[]⟩, ⟨#[]⟩, 0, 0, [], [], []⟩ := fun l => by
    by_cases e : a1 = ⟨#[]⟩
    · subst e; rw [stepR0]
    · rw [stepR (by decide) e, setR_path]
  have s2 : ∀ l, (fldB ⟨#[99, 108, 97, 115, 115]⟩ a2 ++ l).foldl fldR ⟨k, a1, ⟨#[]⟩, ⟨#[]⟩, ⟨#[]⟩, ⟨#[]⟩, 0, 0, [], [], []⟩ = l.foldl fldR ⟨k, a1, a2, ⟨#[]⟩, ⟨#[]⟩, ⟨#[]⟩, 0, 0, [], [], []⟩ := fun l => by
    by_cases e : a2 = ⟨#[]⟩
    · subst e; rw [stepR0]
    · rw [stepR (by decide) e, setR_class]
  have s3 : ∀ l, (fldB ⟨#[102, 117, 110, 99]⟩ a3 ++ l).foldl fldR ⟨k, a1, a2, ⟨#[]⟩, ⟨#[]⟩, ⟨#[]⟩, 0, 0, [], [], []⟩ = l.foldl fldR ⟨k, a1, a2, a3, ⟨#[]⟩, ⟨#[]⟩, 0, 0, [], [], []⟩ := fun l => by
    by_cases e : a3 = ⟨#[]⟩
    · subst e; rw [stepR0]
    · rw [stepR (by decide) e, setR_func]
  have s4 : ∀ l, (fldB ⟨#[110, 97, 109, 101]⟩ a4 ++ l).foldl fldR ⟨k, a1, a2, a3, ⟨#[]⟩, ⟨#[]⟩, 0, 0, [], [], []⟩ = l.foldl fldR ⟨k, a1, a2, a3, a4, ⟨#[]⟩, 0, 0, [], [], []⟩ := fun l => by
    by_cases e : a4 = ⟨#[]⟩
    · subst e; rw [stepR0]
    · rw [stepR (by decide) e, setR_name]
  have s5 : ∀ l, (fldB ⟨#[116, 111]⟩ a5 ++ l).foldl fldR ⟨k, a1, a2, a3, a4, ⟨#[]⟩, 0, 0, [], [], []⟩ = l.foldl fldR ⟨k, a1, a2, a3, a4, a5, 0, 0, [], [], []⟩ := fun l => by
    by_cases e : a5 = ⟨#[]⟩
    · subst e; rw [stepR0]
    · rw [stepR (by decide) e, setR_to]
  have s6 : ∀ l, (fldB ⟨#[110, 111, 100, 101]⟩ (numB n) ++ l).foldl fldR ⟨k, a1, a2, a3, a4, a5, 0, 0, [], [], []⟩ = l.foldl fldR ⟨k, a1, a2, a3, a4, a5, n, 0, [], [], []⟩ := fun l => by
    by_cases e : n = 0
    · subst e; exact stepR0 _ _ _
    · have hn : numB n = itoaB n := by rw [numB, if_neg e]
      rw [hn, stepR (by decide) (itoa_ne n), setR_node, intR_itoa n1 n2]
  have s7 : ∀ l, (fldB ⟨#[112, 111, 115]⟩ (numB p) ++ l).foldl fldR ⟨k, a1, a2, a3, a4, a5, n, 0, [], [], []⟩ = l.foldl fldR ⟨k, a1, a2, a3, a4, a5, n, p, [], [], []⟩ := fun l => by
    by_cases e : p = 0
    · subst e; exact stepR0 _ _ _
    · have hn : numB p = itoaB p := by rw [numB, if_neg e]
      rw [hn, stepR (by decide) (itoa_ne p), setR_pos, intR_itoa n3 n4]
  have s8 : ∀ l, (fldB ⟨#[111, 114, 100, 101, 114]⟩ (joinB (o.map itoaB)) ++ l).foldl fldR ⟨k, a1, a2, a3, a4, a5, n, p, [], [], []⟩ = l.foldl fldR ⟨k, a1, a2, a3, a4, a5, n, p, o, [], []⟩ := fun l => by
    by_cases e : o = []
    · subst e; exact stepR0 _ _ _
    · have hc : commas (joinB (o.map itoaB)) = o.map itoaB := commas_join (by simpa using e) fun x hx => by
        obtain ⟨m, _, rfl⟩ := List.mem_map.1 hx
        exact fun hm => (itoa_all m _ hm).2 rfl
      rw [stepR (by decide) (fun h => e (order_nil.1 h)), setR_order, hc]
      have h1 : ((o.map itoaB).take 17).map intR = o := by
        rw [List.take_of_length_le (by rw [List.length_map]; omega), List.map_map]
        conv => rhs; rw [← List.map_id o]
        exact List.map_congr_left fun m hm => intR_itoa (n5 m hm).1 (n5 m hm).2
      rw [h1]; rfl
  have s9 : ∀ l, (fldB ⟨#[116, 121, 112, 101, 115]⟩ (joinB t) ++ l).foldl fldR ⟨k, a1, a2, a3, a4, a5, n, p, o, [], []⟩ = l.foldl fldR ⟨k, a1, a2, a3, a4, a5, n, p, o, t, []⟩ := fun l => by
    by_cases e : t = []
    · subst e; exact stepR0 _ _ _
    · have hc : commas (joinB t) = t := commas_join e fun x hx => fun hm => (valid_all (ht x hx) _ hm).2.1 rfl
      rw [stepR (by decide) (fun h => e ((list_nil fun x hx => valid_ne (ht x hx)).1 h)), setR_types, hc]
  have s10 : ∀ l, (fldB ⟨#[116, 101, 120, 116, 115]⟩ (joinB (x.map (swapB 32 126))) ++ l).foldl fldR ⟨k, a1, a2, a3, a4, a5, n, p, o, t, []⟩ = l.foldl fldR ⟨k, a1, a2, a3, a4, a5, n, p, o, t, x⟩ := fun l => by
    by_cases e : x = []
    · subst e; exact stepR0 _ _ _
    · have hne : ∀ y ∈ x.map (swapB 32 126), y ≠ ⟨#[]⟩ := fun y hy => by
        obtain ⟨z, hz, rfl⟩ := List.mem_map.1 hy
        intro h
        have h2 := (fine_all (hx z hz)).1
        have h3 : z.size = 0 := by have := congrArg ByteArray.size h; rw [swapZ] at this; exact this
        exact h2 (ba_ext (List.eq_nil_of_length_eq_zero (by rw [← size_list]; exact h3)))
      have hc : commas (joinB (x.map (swapB 32 126))) = x.map (swapB 32 126) := commas_join (by simpa using e) fun y hy => fun hm => by
        obtain ⟨z, hz, rfl⟩ := List.mem_map.1 hy
        obtain ⟨q, hq, hq2⟩ := List.mem_map.1 (show (44 : UInt8) ∈ List.map _ _ from hm)
        split at hq2
        · revert hq2; decide
        · exact ((fine_all (hx z hz)).2 q hq).1 hq2
      have hb : (x.map (swapB 32 126)).map (swapB 126 32) = x := by
        rw [List.map_map]
        conv => rhs; rw [← List.map_id x]
        exact List.map_congr_left fun y hy => swap_swap fun c hc => ((fine_all (hx y hy)).2 c hc).2
      rw [stepR (by decide) (fun h => e (by simpa using (list_nil hne).1 h)), setR_texts, hc, hb]
  rw [s1, s2, s3, s4, s5, s6, s7, s8, s9, s10]
  rfl
theorem cand_print {r : Rf} (h0 : rfErr r = 0) (hg : r.good) : candR (rfText r) = r := by
  obtain ⟨q0, q1, q2, q3, q4, q5, q6, q7⟩ := rfErr_parts h0
  rw [candR, spaces_print h0]
  have hw : toB (str (wordB r.kind)) = wordB r.kind := toB_of _
  simp only [hw]
  rw [kind_of_word q0]
  exact set_fieldsR hg (Go.Proofs.YtellnbgljmocgaaGreatDoor.rfErr_lens h0).1 q6 q7
/-- The reference reads what the program reads. -/
theorem parseR_eq {s : ByteArray} (hs : s.size ≤ 400000) : parseR s = parseS s := by
  unfold parseR
  split
  · rename_i h
    have := parse_print h.1 (candR_ok hs).good
    rw [h.2] at this
    exact this.symm
  · rename_i h
    cases hp : parseS s with
    | none => rfl
    | some r =>
      obtain ⟨h1, h2⟩ := parse_some hp
      have hok := parse_ok hp (by omega)
      have := cand_print h1 hok.good
      rw [h2] at this
      exact absurd (by rw [this]; exact ⟨h1, h2⟩) h
end Go.Vg
set_option linter.unusedVariables false
set_option linter.unusedSimpArgs false
namespace Go.Vg
open Go Go.Lib
def wordR (s : ByteArray) (at_ : Int) (w : ByteArray) : Int := if at_ < 0 then -1 else if (s.size : Int) - at_ < (w.size : Int) then -1 else if s.extract at_.toNat (at_ + (w.size : Int)).toNat = w then at_ + (w.size : Int) else -1
def digitsAt (l : List UInt8) : List UInt8 := (l.take 6).takeWhile isDig
def numR (s : ByteArray) (k : Nat) : Int × Int := if digitsAt ((str s).drop k) = [] then (-1, (k : Int)) else (valI (digitsAt ((str s).drop k)) 0, ((k + (digitsAt ((str s).drop k)).length : Nat) : Int))
def headR (s : ByteArray) (at_ : Int) (w : ByteArray) : Int × Int := if wordR s at_ w < 0 then (0, -1) else if (numR s (wordR s at_ w).toNat).1 < 0 then (0, -1) else numR s (wordR s at_ w).toNat
def colon : ByteArray := ⟨#[58]⟩
def nl : ByteArray := ⟨#[10]⟩
def partR (s : ByteArray) (at_ : Int) : ByteArray × Int := if at_ < 0 then (⟨#[]⟩, -1) else
  if (numR s at_.toNat).1 < 0 then (⟨#[]⟩, -1) else if wordR s (numR s at_.toNat).2 colon < 0 then (⟨#[]⟩, -1) else
  if (s.size : Int) - wordR s (numR s at_.toNat).2 colon < (numR s at_.toNat).1 then (⟨#[]⟩, -1) else
  (s.extract (wordR s (numR s at_.toNat).2 colon).toNat (wordR s (numR s at_.toNat).2 colon + (numR s at_.toNat).1).toNat, wordR s (numR s at_.toNat).2 colon + (numR s at_.toNat).1)
def parentsL (s : ByteArray) : Nat → Int → List Int → Option (List Int × Int)
  | 0, i, out => some (out, i)
  | n + 1, i, out => if (headR s i ⟨#[32]⟩).2 < 0 then none else parentsL s n (headR s i ⟨#[32]⟩).2 (out ++ [(headR s i ⟨#[32]⟩).1])
def parentsR (s : ByteArray) (at_ : Int) : List Int × Int := if (headR s at_ ⟨#[112, 97, 114, 101, 110, 116, 115, 32]⟩).2 < 0 ∨ 2 < (headR s at_ ⟨#[112, 97, 114, 101, 110, 116, 115, 32]⟩).1 then ([], -1) else
  match parentsL s (headR s at_ ⟨#[112, 97, 114, 101, 110, 116, 115, 32]⟩).1.toNat (headR s at_ ⟨#[112, 97, 114, 101, 110, 116, 115, 32]⟩).2 [] with
  | none => ([], -1)
  | some (o, i) => (o, wordR s i nl)
def fileR (s : ByteArray) (i : Int) : Fl × Int := (⟨(partR s i).1, (partR s (wordR s (partR s i).2 ⟨#[32]⟩)).1⟩, wordR s (partR s (wordR s (partR s i).2 ⟨#[32]⟩)).2 nl)
def filesL (s : ByteArray) : Nat → Int → List Fl → Option (List Fl × Int)
  | 0, i, out => some (out, i)
  | n + 1, i, out => if (fileR s i).2 < 0 then none else filesL s n (fileR s i).2 (out ++ [(fileR s i).1])
def filesR (s : ByteArray) (at_ : Int) : List Fl × Int := if wordR s (headR s at_ ⟨#[102, 105, 108, 101, 115, 32]⟩).2 nl < 0 ∨ 32 < (headR s at_ ⟨#[102, 105, 108, 101, 115, 32]⟩).1 then ([], -1) else
  match filesL s (headR s at_ ⟨#[102, 105, 108, 101, 115, 32]⟩).1.toNat (wordR s (headR s at_ ⟨#[102, 105, 108, 101, 115, 32]⟩).2 nl) [] with
  | none => ([], -1)
  | some x => x
def opsL (s : ByteArray) : Nat → Int → List Rf → Option (List Rf × Int)
  | 0, i, out => some (out, i)
  | n + 1, i, out => if wordR s (partR s i).2 nl < 0 then none else match parseR (partR s i).1 with
    | none => none
    | some r => opsL s n (wordR s (partR s i).2 nl) (out ++ [r])
def opsR (s : ByteArray) (at_ : Int) : List Rf × Int := if wordR s (headR s at_ ⟨#[111, 112, 115, 32]⟩).2 nl < 0 ∨ 64 < (headR s at_ ⟨#[111, 112, 115, 32]⟩).1 then ([], -1) else
  match opsL s (headR s at_ ⟨#[111, 112, 115, 32]⟩).1.toNat (wordR s (headR s at_ ⟨#[111, 112, 115, 32]⟩).2 nl) [] with
  | none => ([], -1)
  | some x => x
def endW : ByteArray := ⟨#[101, 110, 100, 10]⟩
/-- The candidate, and where it ends. -/
def candD (s : ByteArray) : Option (Cm × Int) :=
  let h := headR s 0 ⟨#[99, 111, 109, 109, 105, 116, 32]⟩
  let a := wordR s h.2 nl
  if a < 0 then none else
  let p := parentsR s a
  let m := partR s (wordR s p.2 ⟨#[109, 101, 115, 115, 97, 103, 101, 32]⟩)
  let f := filesR s (wordR s m.2 nl)
  let o := opsR s f.2
  let n := wordR s o.2 endW
  if n < 0 then none else some (⟨h.1, p.1, f.1, m.1, o.1⟩, n)
def decR (s : ByteArray) : Option (Cm × Int) := match candD s with
  | none => none
  | some (c, n) => if cmErr c = 0 ∧ cmText c = s.extract 0 n.toNat then some (c, n) else none
/-! ### Bounds -/
theorem wordR_le {s : ByteArray} {i : Int} {w : ByteArray} (h : i ≤ s.size) : -1 ≤ wordR s i w ∧ wordR s i w ≤ s.size := by
  unfold wordR
  repeat' split
  all_goals omega
theorem valI_bound : ∀ (l : List UInt8) (n : Int), 0 ≤ n → (∀ c ∈ l, isDig c = true) → 0 ≤ valI l n ∧ valI l n + 1 ≤ (n + 1) * 10 ^ l.length
  | [], n, h, _ => by simp [valI]; omega
  | c :: r, n, h, hd => by
    have hc := hd c (by simp)
    have hb : 48 ≤ c.toNat ∧ c.toNat ≤ 57 := by simpa [isDig] using hc
    have ih := valI_bound r (n * 10 + (c.toNat - 48)) (by omega) fun x hx => hd x (by simp [hx])
    have e : valI (c :: r) n = valI r (n * 10 + (c.toNat - 48)) := rfl
    rw [e]
    refine ⟨ih.1, Int.le_trans ih.2 ?_⟩
    have hp : (0 : Int) ≤ 10 ^ r.length := Int.pow_nonneg (by decide)
    rw [List.length_cons, Int.pow_succ, Int.mul_comm ((10 : Int) ^ r.length) 10, ← Int.mul_assoc]
    exact Int.mul_le_mul_of_nonneg_right (by omega) hp
theorem digitsAt_len (l : List UInt8) : (digitsAt l).length ≤ 6 ∧ (digitsAt l).length ≤ l.length := by
  unfold digitsAt
  have := (List.takeWhile_prefix isDig (l := l.take 6)).length_le
  rw [List.length_take] at this
  omega
theorem numR_bounds {s : ByteArray} {k : Nat} (h : k ≤ s.size) : -1 ≤ (numR s k).1 ∧ (numR s k).1 ≤ 999999 ∧ 0 ≤ (numR s k).2 ∧ (numR s k).2 ≤ s.size := by
  unfold numR
  have hl := digitsAt_len ((str s).drop k)
  rw [List.length_drop, str_len] at hl
  split
  · simp only; omega
  · have hb := valI_bound (digitsAt ((str s).drop k)) 0 (by decide) fun c hc => tw_all _ c hc
    have hp : (10 : Int) ^ (digitsAt ((str s).drop k)).length ≤ 10 ^ 6 := by
      have := Nat.pow_le_pow_right (by decide : 10 > 0) hl.1
      exact_mod_cast this
    simp only
    generalize (digitsAt ((str s).drop k)).length = n at *
    generalize (10 : Int) ^ n = q at *
    have : (10 : Int) ^ 6 = 1000000 := by decide
    omega
theorem headR_bounds {s : ByteArray} {i : Int} {w : ByteArray} (h : i ≤ s.size) : 0 ≤ (headR s i w).1 ∧ (headR s i w).1 ≤ 999999 ∧ -1 ≤ (headR s i w).2 ∧ (headR s i w).2 ≤ s.size := by
  have h1 := wordR_le (w := w) h
  unfold headR
  split
  · simp only; omega
  · have h2 := numR_bounds (s := s) (k := (wordR s i w).toNat) (by omega)
    split
    · simp only; omega
    · omega
theorem extract_size (s : ByteArray) (a b : Nat) : (s.extract a b).size ≤ s.size := by
  rw [ByteArray.size_extract]; omega
theorem partR_bounds {s : ByteArray} {i : Int} (h : i ≤ s.size) : (partR s i).1.size ≤ s.size ∧ -1 ≤ (partR s i).2 ∧ (partR s i).2 ≤ s.size := by
  unfold partR
  split
  · exact ⟨Nat.zero_le _, by decide, by simp only; omega⟩
  · have h2 := numR_bounds (s := s) (k := i.toNat) (by omega)
    have h1 := wordR_le (w := colon) h2.2.2.2
    generalize numR s i.toNat = x at *
    generalize wordR s x.2 colon = y at *
    split
    · exact ⟨Nat.zero_le _, by decide, by simp only; omega⟩
    · split
      · exact ⟨Nat.zero_le _, by decide, by simp only; omega⟩
      · split
        · exact ⟨Nat.zero_le _, by decide, by simp only; omega⟩
        · exact ⟨extract_size _ _ _, by simp only; omega, by simp only; omega⟩
def num6 (n : Int) : Prop := 0 ≤ n ∧ n ≤ 999999
theorem parentsL_bounds {s : ByteArray} : ∀ (n : Nat) (i : Int) (out o : List Int) (j : Int), i ≤ s.size → (∀ x ∈ out, num6 x) → parentsL s n i out = some (o, j) → j ≤ s.size ∧ (∀ x ∈ o, num6 x) ∧ o.length = out.length + n
  | 0, i, out, o, j, hi, ho, h => by cases h; exact ⟨hi, ho, rfl⟩
  | n + 1, i, out, o, j, hi, ho, h => by
    have hb := headR_bounds (w := ⟨#[32]⟩) hi
    rw [parentsL] at h
    split at h
    · cases h
    · have := parentsL_bounds n _ _ o j hb.2.2.2 (fun x hx => by
        rcases List.mem_append.1 hx with hx | hx
        · exact ho x hx
        · rw [List.mem_singleton.1 hx]; exact ⟨hb.1, hb.2.1⟩) h
      rw [List.length_append] at this
      simp only [List.length_cons, List.length_nil] at this
      exact ⟨this.1, this.2.1, by omega⟩
theorem parentsR_bounds {s : ByteArray} {i : Int} (h : i ≤ s.size) : (∀ x ∈ (parentsR s i).1, num6 x) ∧ (parentsR s i).1.length ≤ 2 ∧ (parentsR s i).2 ≤ s.size := by
  have hb := headR_bounds (w := ⟨#[112, 97, 114, 101, 110, 116, 115, 32]⟩) h
  unfold parentsR
  generalize headR s i ⟨#[112, 97, 114, 101, 110, 116, 115, 32]⟩ = x at *
  split
  · exact ⟨by simp, by simp, by simp only; omega⟩
  · cases hp : parentsL s x.1.toNat x.2 [] with
    | none => exact ⟨by simp, by simp, by simp only; omega⟩
    | some y =>
      obtain ⟨o, j⟩ := y
      have := parentsL_bounds _ _ _ _ _ hb.2.2.2 (by simp) hp
      simp only [List.length_nil] at this
      refine ⟨this.2.1, by simp only; omega, (wordR_le this.1).2⟩
def flOk (B : Nat) (f : Fl) : Prop := f.path.size ≤ B ∧ f.text.size ≤ B
theorem fileR_bounds {s : ByteArray} {i : Int} (h : i ≤ s.size) : flOk s.size (fileR s i).1 ∧ -1 ≤ (fileR s i).2 ∧ (fileR s i).2 ≤ s.size := by
  have h1 := partR_bounds h
  have h2 := wordR_le (w := ⟨#[32]⟩) h1.2.2
  have h3 := partR_bounds h2.2
  have h4 := wordR_le (w := nl) h3.2.2
  exact ⟨⟨h1.1, h3.1⟩, h4.1, h4.2⟩
theorem filesL_bounds {s : ByteArray} : ∀ (n : Nat) (i : Int) (out o : List Fl) (j : Int), i ≤ s.size → (∀ x ∈ out, flOk s.size x) → filesL s n i out = some (o, j) → j ≤ s.size ∧ (∀ x ∈ o, flOk s.size x) ∧ o.length = out.length + n
  | 0, i, out, o, j, hi, ho, h => by cases h; exact ⟨hi, ho, rfl⟩
  | n + 1, i, out, o, j, hi, ho, h => by
    have hb := fileR_bounds hi
    rw [filesL] at h
    split at h
    · cases h
    · have := filesL_bounds n _ _ o j hb.2.2 (fun x hx => by
        rcases List.mem_append.1 hx with hx | hx
        · exact ho x hx
        · rw [List.mem_singleton.1 hx]; exact hb.1) h
      rw [List.length_append] at this
      simp only [List.length_cons, List.length_nil] at this
      exact ⟨this.1, this.2.1, by omega⟩
theorem filesR_bounds {s : ByteArray} {i : Int} (h : i ≤ s.size) : (∀ x ∈ (filesR s i).1, flOk s.size x) ∧ (filesR s i).1.length ≤ 32 ∧ (filesR s i).2 ≤ s.size := by
  have hb := headR_bounds (w := ⟨#[102, 105, 108, 101, 115, 32]⟩) h
  unfold filesR
  generalize headR s i ⟨#[102, 105, 108, 101, 115, 32]⟩ = x at *
  have hw := wordR_le (w := nl) hb.2.2.2
  split
  · exact ⟨by simp, by simp, by simp only; omega⟩
  · cases hp : filesL s x.1.toNat (wordR s x.2 nl) [] with
    | none => exact ⟨by simp, by simp, by simp only; omega⟩
    | some y =>
      obtain ⟨o, j⟩ := y
      have := filesL_bounds _ _ _ _ _ hw.2 (by simp) hp
      simp only [List.length_nil] at this
      exact ⟨this.2.1, by simp only; omega, this.1⟩
theorem parseR_ok {t : ByteArray} {r : Rf} (h : parseR t = some r) (ht : t.size ≤ 400000) : r.ok := by
  unfold parseR at h
  split at h
  · cases h; exact candR_ok ht
  · cases h
theorem opsL_bounds {s : ByteArray} (hs : s.size ≤ 400000) : ∀ (n : Nat) (i : Int) (out o : List Rf) (j : Int), i ≤ s.size → (∀ x ∈ out, Rf.ok x) → opsL s n i out = some (o, j) → j ≤ s.size ∧ (∀ x ∈ o, Rf.ok x) ∧ o.length = out.length + n
  | 0, i, out, o, j, hi, ho, h => by cases h; exact ⟨hi, ho, rfl⟩
  | n + 1, i, out, o, j, hi, ho, h => by
    have hb := partR_bounds hi
    have hw := wordR_le (w := nl) hb.2.2
    rw [opsL] at h
    split at h
    · cases h
    · split at h
      · cases h
      · rename_i r hr
        have := opsL_bounds hs n _ _ o j hw.2 (fun x hx => by
          rcases List.mem_append.1 hx with hx | hx
          · exact ho x hx
          · rw [List.mem_singleton.1 hx]; exact parseR_ok hr (by omega)) h
        rw [List.length_append] at this
        simp only [List.length_cons, List.length_nil] at this
        exact ⟨this.1, this.2.1, by omega⟩
theorem opsR_bounds {s : ByteArray} (hs : s.size ≤ 400000) {i : Int} (h : i ≤ s.size) : (∀ x ∈ (opsR s i).1, Rf.ok x) ∧ (opsR s i).1.length ≤ 64 ∧ (opsR s i).2 ≤ s.size := by
  have hb := headR_bounds (w := ⟨#[111, 112, 115, 32]⟩) h
  unfold opsR
  generalize headR s i ⟨#[111, 112, 115, 32]⟩ = x at *
  have hw := wordR_le (w := nl) hb.2.2.2
  split
  · exact ⟨by simp, by simp, by simp only; omega⟩
  · cases hp : opsL s x.1.toNat (wordR s x.2 nl) [] with
    | none => exact ⟨by simp, by simp, by simp only; omega⟩
    | some y =>
      obtain ⟨o, j⟩ := y
      have := opsL_bounds hs _ _ _ _ _ hw.2 (by simp) hp
      simp only [List.length_nil] at this
      exact ⟨this.2.1, by simp only; omega, this.1⟩
theorem candD_ok {s : ByteArray} (hs : s.size ≤ 400000) {c : Cm} {n : Int} (h : candD s = some (c, n)) : c.ok ∧ 0 ≤ n ∧ n ≤ s.size := by
  have b1 := headR_bounds (s := s) (i := 0) (w := ⟨#[99, 111, 109, 109, 105, 116, 32]⟩) (by omega)
  unfold candD at h
  simp only at h
  generalize headR s 0 ⟨#[99, 111, 109, 109, 105, 116, 32]⟩ = x1 at *
  have b2 := wordR_le (w := nl) b1.2.2.2
  split at h
  · cases h
  have b3 := parentsR_bounds b2.2
  generalize parentsR s (wordR s x1.2 nl) = x2 at *
  have b4 := wordR_le (w := ⟨#[109, 101, 115, 115, 97, 103, 101, 32]⟩) b3.2.2
  have b5 := partR_bounds b4.2
  generalize partR s (wordR s x2.2 ⟨#[109, 101, 115, 115, 97, 103, 101, 32]⟩) = x3 at *
  have b6 := wordR_le (w := nl) b5.2.2
  have b7 := filesR_bounds b6.2
  generalize filesR s (wordR s x3.2 nl) = x4 at *
  have b8 := opsR_bounds hs b7.2.2
  generalize opsR s x4.2 = x5 at *
  have b9 := wordR_le (w := endW) b8.2.2
  split at h
  · cases h
  · rename_i hn
    cases h
    refine ⟨⟨by simp only; omega, by simp only; omega, fun n hn => by have := b3.1 n hn; unfold num6 at this; omega, by simp only; omega, by simp only; omega, by simp only; omega, fun f hf => by have := b7.1 f hf; unfold flOk at this; omega, by simp only; omega, b8.1⟩, by omega, b9.2⟩
end Go.Vg
set_option linter.unusedVariables false
set_option linter.unusedSimpArgs false
namespace Go.Vg
open Go Go.Lib
/-- At this place of a text, this follows. -/
def At (s : ByteArray) (k : Nat) (r : List UInt8) : Prop := k ≤ s.size ∧ (str s).drop k = r
theorem At.len {s : ByteArray} {k : Nat} {r : List UInt8} (h : At s k r) : k + r.length = s.size := by
  have := congrArg List.length h.2
  rw [List.length_drop, str_len] at this
  have := h.1
  omega
theorem At.next {s : ByteArray} {k : Nat} {a r : List UInt8} (h : At s k (a ++ r)) : At s (k + a.length) r := by
  have hl := h.len
  rw [List.length_append] at hl
  refine ⟨by omega, ?_⟩
  rw [← List.drop_drop, h.2]
  simp
theorem extract_str (s : ByteArray) (a b : Nat) : str (s.extract a b) = ((str s).take b).drop a := by simp [str, ByteArray.extract, ByteArray.copySlice, List.drop_take]
theorem At.cut {s : ByteArray} {k : Nat} {a r : List UInt8} (h : At s k (a ++ r)) : s.extract k (k + a.length) = toB a := by
  apply ba_ext
  show str _ = a
  rw [extract_str, List.drop_take, h.2, Nat.add_sub_cancel_left]
  simp
theorem word_at {s : ByteArray} {k : Nat} {w : ByteArray} {r : List UInt8} (h : At s k (str w ++ r)) : wordR s k w = ((k + w.size : Nat) : Int) ∧ At s (k + w.size) r := by
  have hl := h.len
  have hc := h.cut
  have hn := h.next
  rw [List.length_append, str_len] at hl
  rw [str_len] at hc hn
  refine ⟨?_, hn⟩
  unfold wordR
  rw [if_neg (by omega), if_neg (by omega)]
  have e1 : ((k : Nat) : Int).toNat = k := Int.toNat_natCast k
  have e2 : (((k : Nat) : Int) + (w.size : Int)).toNat = k + w.size := by omega
  rw [e1, e2, hc, if_pos (show toB (str w) = w from toB_of w)]
  omega
theorem dec_len : ∀ (k u : Nat), u < 10 ^ (k + 1) → (decDigits u).length ≤ k + 1
  | 0, u, h => by
    rw [decDigits, dif_pos (by simpa using h)]
    simp
  | k + 1, u, h => by
    rw [decDigits]
    split
    · simp
    · rw [List.length_append]
      have := dec_len k (u / 10) (by rw [Nat.pow_succ] at h; omega)
      simp only [List.length_cons, List.length_nil]
      omega
theorem itoa_six {n : Int} (h0 : 0 ≤ n) (h1 : n ≤ 999999) : (itoa n).length ≤ 6 := by
  unfold itoa
  rw [if_neg (by omega)]
  exact dec_len 5 n.toNat (by have : (10 : Nat) ^ (5 + 1) = 1000000 := by decide
                              omega)
theorem tw_app {l r : List UInt8} (hl : ∀ c ∈ l, isDig c = true) (hr : noDig r) (k : Nat) (hk : l.length ≤ k) : ((l ++ r).take k).takeWhile isDig = l := by
  rw [List.take_append, List.take_of_length_le hk]
  have hr2 : noDig (r.take (k - l.length)) := by
    intro c q e
    cases r with
    | nil => simp at e
    | cons x y =>
      cases hj : k - l.length with
      | zero => rw [hj] at e; simp at e
      | succ j =>
        rw [hj, List.take_succ_cons] at e
        cases e
        exact hr c y rfl
  exact (takeWhile_app hl hr2).1
theorem valI_itoa {n : Int} (h0 : 0 ≤ n) : valI (itoa n) 0 = n := by
  unfold itoa
  rw [if_neg (by omega), valI_dec]
  omega
theorem itoa_cons (n : Int) : itoa n ≠ [] := fun h => itoa_ne n (ba_ext h)
theorem num_at {s : ByteArray} {k : Nat} {n : Int} {r : List UInt8} (h0 : 0 ≤ n) (h1 : n ≤ 999999) (hr : noDig r) (h : At s k (itoa n ++ r)) : numR s k = (n, ((k + (itoa n).length : Nat) : Int)) ∧ At s (k + (itoa n).length) r := by
  refine ⟨?_, h.next⟩
  have e : digitsAt ((str s).drop k) = itoa n := by
    rw [h.2]
    exact tw_app (itoa_dig h0) hr 6 (itoa_six h0 h1)
  unfold numR
  rw [e, if_neg (itoa_cons n), valI_itoa h0]
theorem head_at {s : ByteArray} {k : Nat} {w : ByteArray} {n : Int} {r : List UInt8} (h0 : 0 ≤ n) (h1 : n ≤ 999999) (hr : noDig r) (h : At s k (str w ++ (itoa n ++ r))) : ∃ j : Nat, headR s k w = (n, (j : Int)) ∧ At s j r := by
  obtain ⟨e1, a1⟩ := word_at h
  obtain ⟨e2, a2⟩ := num_at h0 h1 hr a1
  refine ⟨_, ?_, a2⟩
  unfold headR
  rw [e1, Int.toNat_natCast, e2, if_neg (by omega), if_neg (by simp only; omega)]
theorem part_at {s : ByteArray} {k : Nat} {t r : List UInt8} (ht : t.length ≤ 999999) (h : At s k (textE t ++ r)) : ∃ j : Nat, partR s k = (toB t, (j : Int)) ∧ At s j r := by
  have h : At s k (itoa t.length ++ (str colon ++ (t ++ r))) := by
    rw [textE] at h
    have : str colon = [58] := rfl
    rw [this]
    simpa [List.append_assoc] using h
  obtain ⟨e1, a1⟩ := num_at (by omega) (by omega) (noDig_cons (c := 58) (by decide)) (show At s k (itoa t.length ++ (58 :: (t ++ r))) from h)
  obtain ⟨e2, a2⟩ := word_at (w := colon) (show At s (k + (itoa t.length).length) (str colon ++ (t ++ r)) from a1)
  have hc := a2.cut
  have hl := a2.len
  rw [List.length_append] at hl
  refine ⟨_, ?_, a2.next⟩
  unfold partR
  rw [if_neg (by omega), Int.toNat_natCast, e1]
  simp only
  rw [e2, if_neg (by omega), if_neg (by omega), if_neg (by omega), Int.toNat_natCast]
  have e3 : (((k + (itoa t.length).length + colon.size : Nat) : Int) + (t.length : Int)).toNat = k + (itoa t.length).length + colon.size + t.length := by omega
  rw [e3, hc]
  exact congrArg (Prod.mk (toB t)) (by omega)
theorem parentsL_at {s : ByteArray} : ∀ (ps : List Int) (k : Nat) (out : List Int) (r : List UInt8), (∀ n ∈ ps, num6 n) → noDig r → At s k ((ps.map parentE).flatten ++ r) → ∃ j : Nat, parentsL s ps.length k out = some (out ++ ps, (j : Int)) ∧ At s j r
  | [], k, out, r, _, _, h => ⟨k, by simp [parentsL], h⟩
  | n :: ps, k, out, r, hp, hr, h => by
    have hn := hp n (by simp)
    have hr2 : noDig ((ps.map parentE).flatten ++ r) := by
      cases ps with
      | nil => exact hr
      | cons m q => exact noDig_cons (by decide)
    have h' : At s k (str ⟨#[32]⟩ ++ (itoa n ++ ((ps.map parentE).flatten ++ r))) := by
      simpa [parentE, List.append_assoc] using h
    obtain ⟨j, e1, a1⟩ := head_at hn.1 hn.2 hr2 h'
    obtain ⟨i, e2, a2⟩ := parentsL_at ps j (out ++ [n]) r (fun x hx => hp x (by simp [hx])) hr a1
    refine ⟨i, ?_, a2⟩
    rw [List.length_cons, parentsL, e1]
    simp only
    rw [if_neg (by omega), e2]
    simp
theorem filesL_at {s : ByteArray} : ∀ (fs : List Fl) (k : Nat) (out : List Fl) (r : List UInt8), (∀ f ∈ fs, flOk 999999 f) → At s k ((fs.map fileE).flatten ++ r) → ∃ j : Nat, filesL s fs.length k out = some (out ++ fs, (j : Int)) ∧ At s j r
  | [], k, out, r, _, h => ⟨k, by simp [filesL], h⟩
  | f :: fs, k, out, r, hp, h => by
    have hf := hp f (by simp)
    have h' : At s k (textE (str f.path) ++ (str ⟨#[32]⟩ ++ (textE (str f.text) ++ (str nl ++ ((fs.map fileE).flatten ++ r))))) := by
      have : str nl = [10] := rfl
      rw [this]
      simpa [fileE, List.append_assoc] using h
    obtain ⟨j1, e1, a1⟩ := part_at (by rw [str_len]; exact hf.1) h'
    obtain ⟨e2, a2⟩ := word_at a1
    obtain ⟨j3, e3, a3⟩ := part_at (by rw [str_len]; exact hf.2) a2
    obtain ⟨e4, a4⟩ := word_at a3
    obtain ⟨i, e5, a5⟩ := filesL_at fs _ (out ++ [f]) r (fun x hx => hp x (by simp [hx])) a4
    have hfr : fileR s k = (f, ((j3 + nl.size : Nat) : Int)) := by
      unfold fileR
      rw [e1]
      simp only
      rw [e2, e3]
      simp only
      rw [e4, show toB (str f.path) = f.path from toB_of _, show toB (str f.text) = f.text from toB_of _]
    refine ⟨i, ?_, a5⟩
    rw [List.length_cons, filesL, hfr]
    simp only
    rw [if_neg (by omega), e5]
    simp
theorem opsL_at {s : ByteArray} : ∀ (os : List Rf) (k : Nat) (out : List Rf) (r : List UInt8), (∀ x ∈ os, (rfText x).size ≤ 400000 ∧ parseS (rfText x) = some x) → At s k ((os.map opE).flatten ++ r) → ∃ j : Nat, opsL s os.length k out = some (out ++ os, (j : Int)) ∧ At s j r
  | [], k, out, r, _, h => ⟨k, by simp [opsL], h⟩
  | x :: os, k, out, r, hp, h => by
    have hx := hp x (by simp)
    have h' : At s k (textE (str (rfText x)) ++ (str nl ++ ((os.map opE).flatten ++ r))) := by
      have : str nl = [10] := rfl
      rw [this]
      simpa [opE, List.append_assoc] using h
    obtain ⟨j1, e1, a1⟩ := part_at (by rw [str_len]; have := hx.1; omega) h'
    obtain ⟨e2, a2⟩ := word_at a1
    obtain ⟨i, e3, a3⟩ := opsL_at os _ (out ++ [x]) r (fun y hy => hp y (by simp [hy])) a2
    have hpr : parseR (toB (str (rfText x))) = some x := by
      rw [show toB (str (rfText x)) = rfText x from toB_of _, parseR_eq hx.1, hx.2]
    refine ⟨i, ?_, a3⟩
    rw [List.length_cons, opsL, e1]
    simp only
    rw [e2, if_neg (by omega), hpr]
    simp only
    rw [e3]
    simp
theorem nd_nl (r : List UInt8) : noDig (str nl ++ r) := noDig_cons (c := 10) (by decide)
theorem cand_at {s : ByteArray} {c : Cm} {rest : List UInt8} (hid : num6 c.id) (hp : (∀ n ∈ c.parents, num6 n) ∧ c.parents.length ≤ 2) (hf : (∀ f ∈ c.files, flOk 999999 f) ∧ c.files.length ≤ 32) (hm : c.msg.size ≤ 999999)
    (ho : (∀ x ∈ c.ops, (rfText x).size ≤ 400000 ∧ parseS (rfText x) = some x) ∧ c.ops.length ≤ 64) (h : str s = commitE c ++ rest) : ∃ n : Nat, candD s = some (c, (n : Int)) ∧ At s n rest := by
  obtain ⟨id, ps, fs, m, os⟩ := c
  simp only at hid hp hf hm ho
  have a0 : At s 0 (str ⟨#[99, 111, 109, 109, 105, 116, 32]⟩ ++ (itoa id ++ (str nl ++ (str ⟨#[112, 97, 114, 101, 110, 116, 115, 32]⟩ ++ (itoa ps.length ++ ((ps.map parentE).flatten ++ (str nl ++ (str ⟨#[109, 101, 115, 115, 97, 103, 101, 32]⟩ ++ (textE (str m) ++ (str nl ++ (str ⟨#[102, 105, 108, 101, 115, 32]⟩ ++ (itoa fs.length ++ (str nl ++
      ((fs.map fileE).flatten ++ (str ⟨#[111, 112, 115, 32]⟩ ++ (itoa os.length ++ (str nl ++ ((os.map opE).flatten ++ (str endW ++ rest))))))))))))))))))) := by
    refine ⟨Nat.zero_le _, ?_⟩
    have e1 : str nl = [10] := rfl
    have e2 : str endW = str ⟨#[101, 110, 100]⟩ ++ [10] := rfl
    rw [List.drop_zero, h, e1, e2]
    simp only [commitE, List.append_assoc, List.cons_append, List.nil_append]
  obtain ⟨j1, e1, a1⟩ := head_at hid.1 hid.2 (nd_nl _) a0
  obtain ⟨e2, a2⟩ := word_at a1
  obtain ⟨j3, e3, a3⟩ := head_at (by omega) (by omega) (by
    cases ps with
    | nil => exact nd_nl _
    | cons x y => exact noDig_cons (c := 32) (by decide)) a2
  obtain ⟨j4, e4, a4⟩ := parentsL_at ps j3 [] _ hp.1 (nd_nl _) a3
  obtain ⟨e5, a5⟩ := word_at a4
  obtain ⟨e6, a6⟩ := word_at a5
  obtain ⟨j7, e7, a7⟩ := part_at (by rw [str_len]; exact hm) a6
  obtain ⟨e8, a8⟩ := word_at a7
  obtain ⟨j9, e9, a9⟩ := head_at (by omega) (by omega) (nd_nl _) a8
  obtain ⟨e10, a10⟩ := word_at a9
  obtain ⟨j11, e11, a11⟩ := filesL_at fs _ [] _ hf.1 a10
  obtain ⟨j12, e12, a12⟩ := head_at (by omega) (by omega) (nd_nl _) a11
  obtain ⟨e13, a13⟩ := word_at a12
  obtain ⟨j14, e14, a14⟩ := opsL_at os _ [] _ ho.1 a13
  obtain ⟨e15, a15⟩ := word_at a14
  refine ⟨_, ?_, a15⟩
  have p1 : parentsR s ((j1 + nl.size : Nat) : Int) = (ps, ((j4 + nl.size : Nat) : Int)) := by
    unfold parentsR
    rw [e3]
    simp only
    rw [if_neg (by omega), Int.toNat_natCast, e4]
    simp only [List.nil_append]
    rw [e5]
  have p2 : filesR s ((j7 + nl.size : Nat) : Int) = (fs, (j11 : Int)) := by
    unfold filesR
    rw [e9]
    simp only
    rw [e10, if_neg (by omega), Int.toNat_natCast, e11]
    simp only [List.nil_append]
  have p3 : opsR s (j11 : Int) = (os, (j14 : Int)) := by
    unfold opsR
    rw [e12]
    simp only
    rw [e13, if_neg (by omega), Int.toNat_natCast, e14]
    simp only [List.nil_append]
  have e1' : headR s 0 ⟨#[99, 111, 109, 109, 105, 116, 32]⟩ = (id, (j1 : Int)) := e1
  unfold candD
  simp only [e1', e2, p1, e6, e7, e8, p2, p3, e15]
  rw [if_neg (by omega), if_neg (by omega), show toB (str m) = m from toB_of m]
theorem cm_parts {c : Cm} (h : cmErr c = 0) : num6 c.id ∧ ((∀ n ∈ c.parents, num6 n) ∧ c.parents.length ≤ 2) ∧ c.files.length ≤ 32 ∧ c.msg.size ≤ 200 ∧ c.ops.length ≤ 64 := by
  have hn := (cmErr_num h).1
  unfold cmErr at h
  split at h
  · cases h
  rename_i h1
  split at h
  · cases h
  rename_i h2
  split at h
  · rename_i h3; exact absurd h h3
  rename_i h3
  split at h
  · cases h
  rename_i h4
  split at h
  · cases h
  rename_i h5
  simp only [not_or, Int.not_lt, Int.not_le] at h1
  simp only [Bool.not_eq_true', Bool.not_eq_false] at h2 h4
  unfold parentsB at h2
  simp only [Bool.and_eq_true, List.all_eq_true, Bool.not_eq_true', decide_eq_false_iff_not] at h2
  have hf : c.files.length ≤ 32 := by
    have h3 : filesErr c.files = 0 := by simpa using h3
    unfold filesErr at h3
    split at h3
    · cases h3
    · omega
  have hm : c.msg.size ≤ 200 := by
    unfold msgB at h4
    simp only [Bool.and_eq_true, Bool.not_eq_true', decide_eq_false_iff_not] at h4
    omega
  refine ⟨⟨h1.1, by omega⟩, ⟨fun n hm => ?_, by have := h2.1.1.1; omega⟩, hf, hm, by omega⟩
  have h6 := h2.2 n hm
  simp only [Bool.and_eq_true, Bool.not_eq_true', Bool.or_eq_false_iff, decide_eq_false_iff_not, decide_eq_true_eq] at h6
  have := (hn.p1 n hm).1
  exact ⟨this, by omega⟩
/-- The reference and the program read the same. -/
theorem dec_eq {s : ByteArray} (hs : s.size ≤ 2000) : decodeV parseS s = match decR s with
    | some (c, n) => .tuple [.agg c.enc, .int .i64 n, .int .i64 0]
    | none => .tuple [.agg noCm.enc, .int .i64 0, .int .i64 1] := by
  cases hd : decodeC parseS s with
  | some x =>
    obtain ⟨c, rest⟩ := x
    have hcp : commitP parseS (str s) = some (c, rest) ∧ cmErr c = 0 := by
      unfold decodeC at hd
      split at hd
      · split at hd
        · cases hd
          exact ⟨by assumption, by assumption⟩
        · cases hd
      · cases hd
    obtain ⟨hcp, d⟩ := hcp
    obtain ⟨ok, hstr⟩ := read_ok hs hcp
    obtain ⟨he, hn, ho⟩ := commit_inv hcp
    obtain ⟨p1, p2, p3, p4, p5⟩ := cm_parts d
    have hl := congrArg List.length hstr
    rw [str_len, List.length_append] at hl
    obtain ⟨n, hc, ha⟩ := cand_at p1 p2 ⟨fun f hf => by have := ok.f1 f hf; unfold flOk; exact ⟨by have := (small_files hs he f hf).1; omega, by have := (small_files hs he f hf).2; omega⟩, p3⟩ (by omega) ⟨fun x hx => ⟨by have := small_ops hs he x hx; omega, ho x hx⟩, p5⟩ hstr
    have hnl := ha.len
    have hnn : n = (commitE c).length := by omega
    have hcut : s.extract 0 n = toB (commitE c) := by
      have := At.cut (s := s) (k := 0) (a := commitE c) (r := rest) ⟨Nat.zero_le _, by rw [List.drop_zero]; exact hstr⟩
      rw [Nat.zero_add] at this
      rw [hnn]; exact this
    have hdr : decR s = some (c, (n : Int)) := by
      unfold decR
      rw [hc]
      simp only
      rw [if_pos ⟨d, by rw [Int.toNat_natCast, hcut, cmText, if_pos d]⟩]
    rw [decodeV, hd, hdr]
    simp only
    rw [show s.size - rest.length = n by omega]
  | none =>
    have hdr : decR s = none := by
      unfold decR
      cases hc : candD s with
      | none => rfl
      | some x =>
        obtain ⟨c, n⟩ := x
        simp only
        split
        · rename_i hq
          obtain ⟨hok, hn0, hn1⟩ := candD_ok (by omega) hc
          exfalso
          have ht : toB (commitE c) = s.extract 0 n.toNat := by
            have := hq.2
            rw [cmText, if_pos hq.1] at this
            exact this
          have hst : str s = commitE c ++ (str s).drop n.toNat := by
            have e := congrArg str ht
            rw [extract_str, List.drop_zero, show str (toB (commitE c)) = commitE c from toB_list _] at e
            rw [e]
            exact (List.take_append_drop n.toNat (str s)).symm
          have := read_back hq.1 hok ((str s).drop n.toNat)
          rw [← hst] at this
          unfold decodeC at hd
          rw [this] at hd
          simp only [hq.1, if_true] at hd
          cases hd
        · rfl
    rw [decodeV, hd, hdr]
end Go.Vg
