/- Reading commits back: what the laws ask of it, in plain words. -/
import Derived.Test.YtellnbgljmocgaaGreatDoorTpC
import Derived.Test.YtellnbgljmocgaaGreatDoorTcO
set_option linter.unusedVariables false
set_option linter.unusedSimpArgs false
namespace Go.Vg
open Go Go.Lib
theorem splitL_none {c : UInt8} : ∀ {l : List UInt8}, c ∉ l → splitL c l = [l]
  | [], _ => rfl
  | x :: r, h => by
    have h1 : ¬ x = c := fun e => h (by simp [e])
    have ih := splitL_none (c := c) (l := r) fun m => h (by simp [m])
    rw [splitL, if_neg h1, ih]
theorem splitL_app {c : UInt8} : ∀ {l : List UInt8} (r : List UInt8), c ∉ l → splitL c (l ++ c :: r) = l :: splitL c r
  | [], r, _ => by simp [splitL]
  | x :: l, r, h => by
    have h1 : ¬ x = c := fun e => h (by simp [e])
    have ih := splitL_app (c := c) (l := l) r fun m => h (by simp [m])
    rw [List.cons_append, splitL, if_neg h1, ih]
theorem cutL_app {c : UInt8} : ∀ {l : List UInt8} (r : List UInt8), c ∉ l → cutL c (l ++ c :: r) = (l, r)
  | [], r, _ => by simp [cutL]
  | x :: l, r, h => by
    have h1 : ¬ x = c := fun e => h (by simp [e])
    have ih := cutL_app (c := c) (l := l) r fun m => h (by simp [m])
    rw [List.cons_append, cutL, if_neg h1, ih]
/-- A list written with a byte between its parts, split there again. -/
theorem split_join {c : UInt8} : ∀ (x : List UInt8) (l : List (List UInt8)), (∀ y ∈ x :: l, c ∉ y) → splitL c (Lib.join (x :: l) [c]) = x :: l
  | x, [], h => by rw [join_one]; exact splitL_none (h x (by simp))
  | x, y :: l, h => by
    have ih := split_join y l fun z hz => h z (by simp [hz])
    have e : Lib.join (x :: y :: l) [c] = x ++ c :: Lib.join (y :: l) [c] := by simp [join_cons, joinTail]
    rw [e, splitL_app _ (h x (by simp)), ih]
theorem commas_join {l : List ByteArray} (hl : l ≠ []) (h : ∀ x ∈ l, (44 : UInt8) ∉ str x) : commas (joinB l) = l := by
  cases l with
  | nil => exact absurd rfl hl
  | cons x r =>
    have := split_join (c := 44) (str x) (r.map str) (by
      intro y hy
      rcases List.mem_cons.1 hy with rfl | hy
      · exact h x (by simp)
      · obtain ⟨z, hz, rfl⟩ := List.mem_map.1 hy
        exact h z (by simp [hz]))
    unfold commas
    have e : str (joinB (x :: r)) = Lib.join (str x :: r.map str) [44] := rfl
    rw [e, this, List.map_cons, List.map_map]
    have hf : (toB ∘ str) = id := funext fun z => toB_of z
    rw [hf, List.map_id]
    exact congrArg (· :: r) (toB_of x)
theorem join_mem {c : UInt8} : ∀ (l : List (List UInt8)), c ∈ Lib.join l [44] → c = 44 ∨ ∃ x ∈ l, c ∈ x
  | [], h => by simp [Lib.join] at h
  | [x], h => by rw [join_one] at h; exact .inr ⟨x, by simp, h⟩
  | x :: y :: l, h => by
    have e : Lib.join (x :: y :: l) [44] = x ++ 44 :: Lib.join (y :: l) [44] := by simp [join_cons, joinTail]
    rw [e] at h
    rcases List.mem_append.1 h with h | h
    · exact .inr ⟨x, by simp, h⟩
    · rcases List.mem_cons.1 h with h | h
      · exact .inl h
      · rcases join_mem (y :: l) h with h | ⟨z, hz, hc⟩
        · exact .inl h
        · exact .inr ⟨z, by simp [hz], hc⟩
theorem joinB_mem {c : UInt8} {l : List ByteArray} (h : c ∈ str (joinB l)) : c = 44 ∨ ∃ x ∈ l, c ∈ str x := by
  rcases join_mem _ h with h | ⟨z, hz, hc⟩
  · exact .inl h
  · obtain ⟨x, hx, rfl⟩ := List.mem_map.1 hz
    exact .inr ⟨x, hx, hc⟩
theorem joinB_ne {l : List ByteArray} (hl : l ≠ []) (h : ∀ x ∈ l, x ≠ ⟨#[]⟩) : joinB l ≠ ⟨#[]⟩ := by
  intro e
  have hc := commas_len
  cases l with
  | nil => exact hl rfl
  | cons x r =>
    have hs : str (joinB (x :: r)) = [] := by rw [e]; rfl
    have : str x = [] := by
      have e2 : str (joinB (x :: r)) = str x ++ joinTail [44] (r.map str) := by
        show Lib.join _ _ = _
        rw [List.map_cons, join_cons]
        rfl
      rw [e2] at hs
      exact (List.append_eq_nil_iff.1 hs).1
    exact h x (by simp) (ba_ext this)
/-! ### The bytes of names, paths and numbers -/
def okByte (c : UInt8) : Bool := !decide (c = 32) && !decide (c = 44) && !decide (c = 126)
theorem nameB_ok {c : UInt8} (h : nameB c.toNat = true) : c ≠ 32 ∧ c ≠ 44 ∧ c ≠ 61 := by
  refine ⟨?_, ?_, ?_⟩ <;> rintro rfl <;> exact absurd h (by decide)
theorem valid_ne {s : ByteArray} (h : validName s = true) : s ≠ ⟨#[]⟩ := by
  rintro rfl
  exact absurd h (by decide)
theorem valid_all {s : ByteArray} (h : validName s = true) : ∀ c ∈ str s, c ≠ 32 ∧ c ≠ 44 ∧ c ≠ 61 := by
  intro c hc
  unfold validName at h
  simp only [Bool.and_eq_true, List.all_eq_true] at h
  exact nameB_ok (h.2 c hc)
theorem parts_ok : ∀ (l cur : List UInt8), pathParts cur l = true → (∀ c ∈ cur, c ≠ 32) ∨ True → ∀ c ∈ cur ++ l, c ≠ 32
  | [], cur, h, _ => by
    intro c hc
    rw [List.append_nil] at hc
    unfold pathParts partB at h
    simp only [Bool.and_eq_true, List.all_eq_true, Bool.or_eq_true, decide_eq_true_eq] at h
    rcases h.2 c hc with (h | h) | h
    · exact (nameB_ok h).1
    · rw [h]; decide
    · rw [h]; decide
  | x :: r, cur, h, _ => by
    unfold pathParts at h
    split at h
    · rename_i hx
      simp only [Bool.and_eq_true] at h
      have h1 := parts_ok [] cur (by rw [pathParts]; exact h.1) (.inr trivial)
      have h2 := parts_ok r [] h.2 (.inr trivial)
      intro c hc
      rcases List.mem_append.1 hc with hc | hc
      · exact h1 c (by simpa using hc)
      · rcases List.mem_cons.1 hc with rfl | hc
        · rw [hx]; decide
        · exact h2 c (by simpa using hc)
    · have h1 := parts_ok r (cur ++ [x]) h (.inr trivial)
      intro c hc
      exact h1 c (by simpa using hc)
theorem path_all {s : ByteArray} (h : pathB s = true) : ∀ c ∈ str s, c ≠ 32 := by
  unfold pathB at h
  simp only [Bool.and_eq_true] at h
  have := parts_ok (str s) [] h.2 (.inr trivial)
  simpa using this
theorem itoa_all (n : Int) : ∀ c ∈ str (itoaB n), c ≠ 32 ∧ c ≠ 44 := by
  intro c hc
  have hc : c ∈ itoa n := hc
  have hd : ∀ u, c ∈ decDigits u → c ≠ 32 ∧ c ≠ 44 := fun u hu => by
    have := dec_all u c hu
    constructor <;> rintro rfl <;> exact absurd this (by decide)
  unfold itoa at hc
  split at hc
  · rcases List.mem_cons.1 hc with rfl | hc
    · decide
    · exact hd _ hc
  · exact hd _ hc
theorem itoa_ne (n : Int) : itoaB n ≠ ⟨#[]⟩ := by
  intro e
  have h : itoa n = [] := congrArg (fun s : ByteArray => s.data.toList) e
  unfold itoa at h
  split at h
  · cases h
  · exact dec_ne _ h
theorem atoi_of {n : Int} (h0 : -9223372036854775808 ≤ n) (h1 : n ≤ 9223372036854775807) : atoiN (itoaB n) = n ∧ atoiOk (itoaB n) = true := by
  have : atoiAll (str (itoaB n)) = .ok n := atoi_itoa h0 h1
  unfold atoiN atoiOk
  rw [this]
  exact ⟨rfl, rfl⟩
theorem fine_all {s : ByteArray} (h : fineB s = true) : s ≠ ⟨#[]⟩ ∧ ∀ c ∈ str s, c ≠ 44 ∧ c ≠ 126 := by
  unfold fineB at h
  simp only [Bool.and_eq_true, List.all_eq_true, Bool.not_eq_true', decide_eq_false_iff_not, decide_eq_true_eq] at h
  refine ⟨h.2, fun c hc => ⟨(h.1 c hc).2, ?_⟩⟩
  rintro rfl
  exact absurd (h.1 _ hc).1.2 (by decide)
theorem swap_swap {s : ByteArray} (h : ∀ c ∈ str s, c ≠ 126) : swapB 126 32 (swapB 32 126 s) = s := by
  apply ba_ext
  show List.map _ (List.map _ s.data.toList) = s.data.toList
  rw [List.map_map]
  conv => rhs; rw [← List.map_id s.data.toList]
  refine List.map_congr_left fun c hc => ?_
  have h1 := h c hc
  by_cases e : c = 32
  · subst e; rfl
  · simp [e, h1]
theorem swap_all (s : ByteArray) : ∀ c ∈ str (swapB 32 126 s), c ≠ 32 := by
  intro c hc
  obtain ⟨x, _, rfl⟩ := List.mem_map.1 (show c ∈ List.map _ _ from hc)
  split
  · decide
  · assumption
end Go.Vg
set_option linter.unusedVariables false
set_option linter.unusedSimpArgs false
namespace Go.Vg
open Go Go.Lib
/-- A field, as it stands between the spaces; none if the value is empty. -/
def fldB (key v : ByteArray) : List ByteArray := if v = ⟨#[]⟩ then [] else [toB (str key ++ 61 :: str v)]
def kvs (r : Rf) : List (ByteArray × ByteArray) := [(⟨#[112, 97, 116, 104]⟩, r.path), (⟨#[99, 108, 97, 115, 115]⟩, r.cls), (⟨#[102, 117, 110, 99]⟩, r.fn), (⟨#[110, 97, 109, 101]⟩, r.name), (⟨#[116, 111]⟩, r.new), (⟨#[110, 111, 100, 101]⟩, numB r.node), (⟨#[112, 111, 115]⟩, numB r.pos), (⟨#[111, 114, 100, 101, 114]⟩, joinB (r.order.map itoaB)), (⟨#[116, 121, 112, 101, 115]⟩, joinB r.types),
  (⟨#[116, 101, 120, 116, 115]⟩, joinB (r.texts.map (swapB 32 126)))]
theorem rfText_kvs (r : Rf) : str (rfText r) = str (wordB r.kind) ++ ((kvs r).map fun p => str (fieldB p.1 p.2)).flatten := by
  simp only [rfText, str, ba_append, kvs, List.map_cons, List.map_nil, List.flatten_cons, List.flatten_nil, List.append_nil, List.append_assoc]
theorem fieldB_str (k v : ByteArray) : str (fieldB k v) = if v = ⟨#[]⟩ then [] else 32 :: (str k ++ 61 :: str v) := by
  unfold fieldB
  split
  · rfl
  · simp only [str, ba_append, List.append_assoc]
    rfl
theorem split_fields : ∀ (l : List (ByteArray × ByteArray)) (w : List UInt8), (32 : UInt8) ∉ w → (∀ p ∈ l, (32 : UInt8) ∉ str p.1 ∧ (32 : UInt8) ∉ str p.2) →
    (splitL 32 (w ++ (l.map fun p => str (fieldB p.1 p.2)).flatten)).map toB = toB w :: (l.map fun p => fldB p.1 p.2).flatten
  | [], w, hw, _ => by
    simp only [List.map_nil, List.flatten_nil, List.append_nil]
    rw [splitL_none hw]; rfl
  | (k, v) :: l, w, hw, h => by
    have hp := h (k, v) (by simp)
    simp only [List.map_cons, List.flatten_cons]
    rw [fieldB_str]
    by_cases hv : v = ⟨#[]⟩
    · simp only [fldB, hv, if_true, List.nil_append]
      exact split_fields l w hw fun p hq => h p (by simp [hq])
    · simp only [fldB, hv, if_false]
      have hx : (32 : UInt8) ∉ str k ++ 61 :: str v := by
        intro hm
        rcases List.mem_append.1 hm with hm | hm
        · exact hp.1 hm
        · rcases List.mem_cons.1 hm with hm | hm
          · revert hm; decide
          · exact hp.2 hm
      have ih := split_fields l (str k ++ 61 :: str v) hx fun p hq => h p (by simp [hq])
      rw [List.cons_append, splitL_app _ hw, List.map_cons, ih]
      rfl
theorem wordB_all (n : Int) : (32 : UInt8) ∉ str (wordB n) := by
  unfold wordB
  repeat' split
  all_goals decide
theorem step {k v : ByteArray} (hk : (61 : UInt8) ∉ str k) (hv : v ≠ ⟨#[]⟩) (l : List ByteArray) (r : Rf) : setAll (fldB k v ++ l) r = if (setK r k v).2 then setAll l (setK r k v).1 else none := by
  have hc : cutB 61 (toB (str k ++ 61 :: str v)) = (k, v) := by
    unfold cutB
    have : str (toB (str k ++ 61 :: str v)) = str k ++ 61 :: str v := rfl
    rw [this, cutL_app _ hk]
    exact congr (congrArg Prod.mk (toB_of k)) (toB_of v)
  rw [fldB, if_neg hv, List.cons_append, List.nil_append, setAll, hc]
theorem step0 (k : ByteArray) (l : List ByteArray) (r : Rf) : setAll (fldB k ⟨#[]⟩ ++ l) r = setAll l r := by rw [fldB, if_pos rfl]; rfl
theorem numB_zero {n : Int} : numB n = ⟨#[]⟩ ↔ n = 0 := by
  unfold numB
  split
  · simp_all
  · constructor
    · intro h; exact absurd h (itoa_ne n)
    · intro h; exact absurd h (by assumption)
theorem order_nil {o : List Int} : joinB (o.map itoaB) = ⟨#[]⟩ ↔ o = [] := by
  constructor
  · intro h
    by_cases e : o = []
    · exact e
    · exact absurd h (joinB_ne (by simpa using e) fun x hx => by obtain ⟨n, _, rfl⟩ := List.mem_map.1 hx; exact itoa_ne n)
  · rintro rfl; rfl
theorem list_nil {o : List ByteArray} (h : ∀ x ∈ o, x ≠ ⟨#[]⟩) : joinB o = ⟨#[]⟩ ↔ o = [] := by
  constructor
  · intro he
    by_cases e : o = []
    · exact e
    · exact absurd he (joinB_ne e h)
  · rintro rfl; rfl
structure Rf.good (r : Rf) : Prop where
  n1 : -9223372036854775808 ≤ r.node
  n2 : r.node ≤ 9223372036854775807
  n3 : -9223372036854775808 ≤ r.pos
  n4 : r.pos ≤ 9223372036854775807
  n5 : ∀ n ∈ r.order, -9223372036854775808 ≤ n ∧ n ≤ 9223372036854775807
theorem Rf.ok.good {r : Rf} (h : r.ok) : r.good := ⟨h.n1, h.n2, h.n3, h.n4, h.n5⟩
theorem set_fields {r : Rf} (h : r.good) (ht : ∀ x ∈ r.types, validName x = true) (hx : ∀ x ∈ r.texts, fineB x = true) : setAll (((kvs r).map fun p => fldB p.1 p.2).flatten) (kindRf r.kind) = some r := by
  obtain ⟨k, a1, a2, a3, a4, a5, n, p, o, t, x⟩ := r
  obtain ⟨n1, n2, n3, n4, n5⟩ := h
  simp only at n1 n2 n3 n4 n5 ht hx
  simp only [kvs, List.map_cons, List.map_nil, List.flatten_cons, List.flatten_nil, kindRf]
  have s1 : ∀ l, setAll (fldB ⟨#[112, 97, 116, 104]⟩ a1 ++ l) ⟨k, ⟨#[]⟩, ⟨#[]⟩, ⟨#[]⟩, ⟨#[]⟩, ⟨#[]⟩, 0, 0, [], [], []⟩ = setAll l ⟨k, a1, ⟨#[]⟩, ⟨#[]⟩, ⟨#[]⟩, ⟨#[]⟩, 0, 0, [], [], []⟩ := fun l => by
    by_cases e : a1 = ⟨#[]⟩
    · subst e; rw [step0]
    · rw [step (by decide) e, setK_path]; rfl
  have s2 : ∀ l, setAll (fldB ⟨#[99, 108, 97, 115, 115]⟩ a2 ++ l) ⟨k, a1, ⟨#[]⟩, ⟨#[]⟩, ⟨#[]⟩, ⟨#[]⟩, 0, 0, [], [], []⟩ = setAll l ⟨k, a1, a2, ⟨#[]⟩, ⟨#[]⟩, ⟨#[]⟩, 0, 0, [], [], []⟩ := fun l => by
    by_cases e : a2 = ⟨#[]⟩
    · subst e; rw [step0]
    · rw [step (by decide) e, setK_class]; rfl
  have s3 : ∀ l, setAll (fldB ⟨#[102, 117, 110, 99]⟩ a3 ++ l) ⟨k, a1, a2, ⟨#[]⟩, ⟨#[]⟩, ⟨#[]⟩, 0, 0, [], [], []⟩ = setAll l ⟨k, a1, a2, a3, ⟨#[]⟩, ⟨#[]⟩, 0, 0, [], [], []⟩ := fun l => by
    by_cases e : a3 = ⟨#[]⟩
    · subst e; rw [step0]
    · rw [step (by decide) e, setK_func]; rfl
  have s4 : ∀ l, setAll (fldB ⟨#[110, 97, 109, 101]⟩ a4 ++ l) ⟨k, a1, a2, a3, ⟨#[]⟩, ⟨#[]⟩, 0, 0, [], [], []⟩ = setAll l ⟨k, a1, a2, a3, a4, ⟨#[]⟩, 0, 0, [], [], []⟩ := fun l => by
    by_cases e : a4 = ⟨#[]⟩
    · subst e; rw [step0]
    · rw [step (by decide) e, setK_name]; rfl
  have s5 : ∀ l, setAll (fldB ⟨#[116, 111]⟩ a5 ++ l) ⟨k, a1, a2, a3, a4, ⟨#[]⟩, 0, 0, [], [], []⟩ = setAll l ⟨k, a1, a2, a3, a4, a5, 0, 0, [], [], []⟩ := fun l => by
    by_cases e : a5 = ⟨#[]⟩
    · subst e; rw [step0]
    · rw [step (by decide) e, setK_to]; rfl
  have s6 : ∀ l, setAll (fldB ⟨#[110, 111, 100, 101]⟩ (numB n) ++ l) ⟨k, a1, a2, a3, a4, a5, 0, 0, [], [], []⟩ = setAll l ⟨k, a1, a2, a3, a4, a5, n, 0, [], [], []⟩ := fun l => by
    by_cases e : n = 0
    · subst e; exact step0 _ _ _
    · have hn : numB n = itoaB n := by rw [numB, if_neg e]
      rw [hn, step (by decide) (itoa_ne n), setK_node, (atoi_of n1 n2).1, (atoi_of n1 n2).2]; rfl
  have s7 : ∀ l, setAll (fldB ⟨#[112, 111, 115]⟩ (numB p) ++ l) ⟨k, a1, a2, a3, a4, a5, n, 0, [], [], []⟩ = setAll l ⟨k, a1, a2, a3, a4, a5, n, p, [], [], []⟩ := fun l => by
    by_cases e : p = 0
    · subst e; exact step0 _ _ _
    · have hn : numB p = itoaB p := by rw [numB, if_neg e]
      rw [hn, step (by decide) (itoa_ne p), setK_pos, (atoi_of n3 n4).1, (atoi_of n3 n4).2]; rfl
  have s8 : ∀ l, setAll (fldB ⟨#[111, 114, 100, 101, 114]⟩ (joinB (o.map itoaB)) ++ l) ⟨k, a1, a2, a3, a4, a5, n, p, [], [], []⟩ = setAll l ⟨k, a1, a2, a3, a4, a5, n, p, o, [], []⟩ := fun l => by
    by_cases e : o = []
    · subst e; exact step0 _ _ _
    · have hc : commas (joinB (o.map itoaB)) = o.map itoaB := commas_join (by simpa using e) fun x hx => by
        obtain ⟨m, _, rfl⟩ := List.mem_map.1 hx
        exact fun hm => (itoa_all m _ hm).2 rfl
      rw [step (by decide) (fun h => e (order_nil.1 h)), setK_order, hc]
      have h1 : (o.map itoaB).map atoiN = o := by
        rw [List.map_map]
        conv => rhs; rw [← List.map_id o]
        exact List.map_congr_left fun m hm => (atoi_of (n5 m hm).1 (n5 m hm).2).1
      have h2 : (o.map itoaB).all atoiOk = true := by
        rw [List.all_eq_true]
        intro y hy
        obtain ⟨m, hm, rfl⟩ := List.mem_map.1 hy
        exact (atoi_of (n5 m hm).1 (n5 m hm).2).2
      rw [h1, h2]; rfl
  have s9 : ∀ l, setAll (fldB ⟨#[116, 121, 112, 101, 115]⟩ (joinB t) ++ l) ⟨k, a1, a2, a3, a4, a5, n, p, o, [], []⟩ = setAll l ⟨k, a1, a2, a3, a4, a5, n, p, o, t, []⟩ := fun l => by
    by_cases e : t = []
    · subst e; exact step0 _ _ _
    · have hc : commas (joinB t) = t := commas_join e fun x hx => fun hm => (valid_all (ht x hx) _ hm).2.1 rfl
      rw [step (by decide) (fun h => e ((list_nil fun x hx => valid_ne (ht x hx)).1 h)), setK_types, hc]; rfl
  have s10 : ∀ l, setAll (fldB ⟨#[116, 101, 120, 116, 115]⟩ (joinB (x.map (swapB 32 126))) ++ l) ⟨k, a1, a2, a3, a4, a5, n, p, o, t, []⟩ = setAll l ⟨k, a1, a2, a3, a4, a5, n, p, o, t, x⟩ := fun l => by
    by_cases e : x = []
    · subst e; exact step0 _ _ _
    · have hj : joinB (x.map (swapB 32 126)) = swapB 32 126 (joinB x) := swapB_join 32 126 (by decide) x
      have hs : swapB 126 32 (swapB 32 126 (joinB x)) = joinB x := swap_swap fun c hc => by
        rcases joinB_mem hc with rfl | ⟨y, hy, hm⟩
        · decide
        · exact ((fine_all (hx y hy)).2 c hm).2
      have hc : commas (joinB x) = x := commas_join e fun y hy => fun hm => ((fine_all (hx y hy)).2 _ hm).1 rfl
      have hne : swapB 32 126 (joinB x) ≠ ⟨#[]⟩ := fun h => by
        rw [h] at hs
        exact e ((list_nil fun y hy => (fine_all (hx y hy)).1).1 hs.symm)
      rw [hj, step (by decide) hne, setK_texts, hs, hc]; rfl
  rw [s1, s2, s3, s4, s5, s6, s7, s8, s9, s10]
  rfl
theorem rfErr_parts {r : Rf} (h : rfErr r = 0) : wordB r.kind ≠ ⟨#[]⟩ ∧ (r.path = ⟨#[]⟩ ∨ pathB r.path = true) ∧ maybeB r.cls = true ∧ maybeB r.fn = true ∧ maybeB r.name = true ∧ maybeB r.new = true ∧ (∀ x ∈ r.types, validName x = true) ∧ ∀ x ∈ r.texts, fineB x = true := by
  unfold rfErr at h
  split at h
  · cases h
  rename_i h1
  split at h
  · cases h
  rename_i h2
  split at h
  · cases h
  rename_i h3
  simp only [Bool.or_eq_true, Bool.and_eq_true, Bool.not_eq_true', not_or, not_and, Bool.not_eq_false, decide_eq_false_iff_not] at h2 h3
  obtain ⟨⟨⟨⟨⟨q1, q2⟩, q3⟩, q4⟩, q5⟩, q6⟩ := h2
  refine ⟨h1, ?_, q2, q3, q4, q5, List.all_eq_true.1 q6, List.all_eq_true.1 h3⟩
  by_cases e : r.path = ⟨#[]⟩
  · exact .inl e
  · exact .inr (q1 e)
theorem maybe_all {s : ByteArray} (h : maybeB s = true) : (32 : UInt8) ∉ str s := by
  unfold maybeB at h
  rcases Bool.or_eq_true _ _ ▸ h with h | h
  · have : s = ⟨#[]⟩ := by simpa using h
    subst this
    exact List.not_mem_nil
  · exact fun hm => (valid_all h _ hm).1 rfl
theorem kind_of_word {k : Int} (h : wordB k ≠ ⟨#[]⟩) : kindOf (wordB k) = k := by
  have : 1 ≤ k ∧ k ≤ 5 := by
    unfold wordB at h
    repeat' (split at h; · omega)
    exact absurd rfl h
  exact kindOf_word this.1 this.2
theorem spaces_print {r : Rf} (h0 : rfErr r = 0) : spaces (rfText r) = toB (str (wordB r.kind)) :: ((kvs r).map fun p => fldB p.1 p.2).flatten := by
  obtain ⟨q0, q1, q2, q3, q4, q5, q6, q7⟩ := rfErr_parts h0
  unfold spaces
  rw [rfText_kvs]
  refine split_fields _ _ (wordB_all _) fun p hp => ?_
  simp only [kvs, List.mem_cons, List.not_mem_nil, or_false] at hp
  rcases hp with rfl | rfl | rfl | rfl | rfl | rfl | rfl | rfl | rfl | rfl
  · refine ⟨by simp only; decide, ?_⟩
    rcases q1 with q1 | q1
    · simp only; rw [q1]; exact List.not_mem_nil
    · exact fun hm => path_all q1 _ hm rfl
  · exact ⟨by simp only; decide, maybe_all q2⟩
  · exact ⟨by simp only; decide, maybe_all q3⟩
  · exact ⟨by simp only; decide, maybe_all q4⟩
  · exact ⟨by simp only; decide, maybe_all q5⟩
  · refine ⟨by simp only; decide, ?_⟩
    unfold numB
    split
    · exact List.not_mem_nil
    · exact fun hm => (itoa_all _ _ hm).1 rfl
  · refine ⟨by simp only; decide, ?_⟩
    unfold numB
    split
    · exact List.not_mem_nil
    · exact fun hm => (itoa_all _ _ hm).1 rfl
  · refine ⟨by simp only; decide, fun hm => ?_⟩
    rcases joinB_mem hm with h | ⟨x, hx, hc⟩
    · revert h; decide
    · obtain ⟨m, _, rfl⟩ := List.mem_map.1 hx
      exact (itoa_all _ _ hc).1 rfl
  · refine ⟨by simp only; decide, fun hm => ?_⟩
    rcases joinB_mem hm with h | ⟨x, hx, hc⟩
    · revert h; decide
    · exact (valid_all (q6 x hx) _ hc).1 rfl
  · refine ⟨by simp only; decide, fun hm => ?_⟩
    rcases joinB_mem hm with h | ⟨x, hx, hc⟩
    · revert h; decide
    · obtain ⟨y, _, rfl⟩ := List.mem_map.1 hx
      exact swap_all _ _ hc rfl
/-- What is printed is parsed. -/
theorem parse_print {r : Rf} (h0 : rfErr r = 0) (hg : r.good) : parseS (rfText r) = some r := by
  obtain ⟨q0, q1, q2, q3, q4, q5, q6, q7⟩ := rfErr_parts h0
  have hsp := spaces_print h0
  have hread : readRf (rfText r) = some r := by
    rw [readRf, hsp]
    have hw : toB (str (wordB r.kind)) = wordB r.kind := toB_of _
    simp only [hw]
    rw [kind_of_word q0]
    exact set_fields hg q6 q7
  rw [parseS, hread]
  simp only [h0, true_and, if_true]
theorem parse_some {t : ByteArray} {r : Rf} (h : parseS t = some r) : rfErr r = 0 ∧ rfText r = t := by
  unfold parseS at h
  split at h
  · cases h
  · split at h
    · rename_i hq
      cases h
      exact hq
    · cases h
end Go.Vg
set_option linter.unusedVariables false
set_option linter.unusedSimpArgs false
namespace Go.Vg
open Go Go.Lib
theorem flat_le {α : Type} (e : α → List UInt8) : ∀ (xs : List α) (x : α), x ∈ xs → (e x).length ≤ ((xs.map e).flatten).length
  | [], x, h => by cases h
  | y :: ys, x, h => by
    simp only [List.map_cons, List.flatten_cons, List.length_append]
    rcases List.mem_cons.1 h with rfl | h
    · omega
    · have := flat_le e ys x h; omega
theorem flat_len {α : Type} (e : α → List UInt8) (he : ∀ x, 1 ≤ (e x).length) : ∀ (xs : List α), xs.length ≤ ((xs.map e).flatten).length
  | [] => Nat.le_refl _
  | y :: ys => by
    simp only [List.map_cons, List.flatten_cons, List.length_append, List.length_cons]
    have := flat_len e he ys
    have := he y
    omega
structure Cm.num (c : Cm) : Prop where
  i1 : 0 ≤ c.id
  i2 : c.id ≤ 9223372036854775807
  p1 : ∀ n ∈ c.parents, 0 ≤ n ∧ n ≤ 9223372036854775807
theorem commit_inv {l rest : List UInt8} {c : Cm} (h : commitP parseS l = some (c, rest)) : l = commitE c ++ rest ∧ c.num ∧ ∀ r ∈ c.ops, parseS (rfText r) = some r := by
  simp only [commitP, Option.bind_eq_bind, Option.bind_eq_some_iff, Prod.exists, Option.some.injEq, Prod.mk.injEq] at h
  obtain ⟨l1, h1, id, l2, h2, l3, h3, np, l4, h4, ps, l5, h5, l6, h6, m, l7, h7, l8, h8, nf, l9, h9, l10, h10, fs, l11, h11, l12, h12, no, l13, h13, l14, h14, os, l15, h15, l16, h16, rfl, rfl⟩ := h
  have e1 := wordP_some h1
  obtain ⟨e2, i1, i2⟩ := numP_some h2
  have e3 := wordP_some h3
  obtain ⟨e4, k1, _⟩ := numP_some h4
  obtain ⟨e5, f1, f2⟩ := repP_some (e := parentE) (Q := fun n => 0 ≤ n ∧ n ≤ 9223372036854775807) (fun l x r h => by
    simp only [parentP, Option.bind_eq_bind, Option.bind_eq_some_iff] at h
    obtain ⟨l', g1, g2⟩ := h
    obtain ⟨rfl, g3⟩ := numP_some g2
    rw [wordP_some g1, parentE, List.append_assoc]
    exact ⟨rfl, g3⟩) _ _ _ _ h5
  have e6 := wordP_some h6
  have e7 := textP_some h7
  have e8 := wordP_some h8
  obtain ⟨e9, k2, _⟩ := numP_some h9
  have e10 := wordP_some h10
  obtain ⟨e11, f3, _⟩ := repP_some (e := fileE) (Q := fun _ => True) (fun l x r h => by
    simp only [fileP, Option.bind_eq_bind, Option.bind_eq_some_iff, Prod.exists, Option.some.injEq, Prod.mk.injEq] at h
    obtain ⟨p, l1, g1, l2, g2, t, l3, g3, l4, g4, rfl, rfl⟩ := h
    have q1 := textP_some g1
    have q2 := wordP_some g2
    have q3 := textP_some g3
    have q4 := wordP_some g4
    refine ⟨?_, trivial⟩
    have d1 : str (toB p) = p := toB_list p
    have d2 : str (toB t) = t := toB_list t
    simp only [fileE, d1, d2]
    rw [q1, q2, q3, q4]
    simp only [List.append_assoc]) _ _ _ _ h11
  have e12 := wordP_some h12
  obtain ⟨e13, k3, _⟩ := numP_some h13
  have e14 := wordP_some h14
  obtain ⟨e15, f4, f5⟩ := repP_some (e := opE) (Q := fun r => parseS (rfText r) = some r) (fun l x r h => by
    simp only [opP, Option.bind_eq_bind, Option.bind_eq_some_iff, Prod.exists, Option.some.injEq, Prod.mk.injEq] at h
    obtain ⟨t, l1, g1, x', g2, l2, g3, rfl, rfl⟩ := h
    have q1 := textP_some g1
    have q3 := wordP_some g3
    obtain ⟨_, q2⟩ := parse_some g2
    have d1 : str (toB t) = t := toB_list t
    refine ⟨?_, by rw [q2]; exact g2⟩
    simp only [opE, q2, d1]
    rw [q1, q3]
    simp only [List.append_assoc]) _ _ _ _ h15
  have e16 := wordP_some h16
  refine ⟨?_, ⟨i1, i2, f2⟩, f5⟩
  have d1 : str (toB m) = m := toB_list m
  have c1 : ((ps.length : Nat) : Int) = np := by omega
  have c2 : ((fs.length : Nat) : Int) = nf := by omega
  have c3 : ((os.length : Nat) : Int) = no := by omega
  simp only [commitE, d1, c1, c2, c3]
  rw [e1, e2, e3, e4, e5, e6, e7, e8, e9, e10, e11, e12, e13, e14, e15, e16]
  simp only [List.append_assoc, List.cons_append, List.nil_append]
theorem noDig_cons {c : UInt8} {l : List UInt8} (h : isDig c = false) : noDig (c :: l) := by
  intro x r e
  cases e
  exact h
theorem commit_app {c : Cm} (hn : c.num) (hl : c.parents.length ≤ 1000000 ∧ c.files.length ≤ 1000000 ∧ c.ops.length ≤ 1000000) (hf : ∀ f ∈ c.files, f.path.size ≤ 1000000000 ∧ f.text.size ≤ 1000000000) (hm : c.msg.size ≤ 1000000000)
    (ho : ∀ r ∈ c.ops, parseS (rfText r) = some r ∧ (rfText r).size ≤ 1000000000) (more : List UInt8) : commitP parseS (commitE c ++ more) = some (c, more) := by
  obtain ⟨id, ps, fs, m, os⟩ := c
  obtain ⟨i1, i2, p1⟩ := hn
  obtain ⟨l1, l2, l3⟩ := hl
  simp only at i1 i2 p1 l1 l2 l3 hf hm ho
  have hsz : ∀ s : ByteArray, s.size ≤ 1000000000 → ((str s).length : Int) ≤ 9223372036854775807 := fun s h => by
    have : (str s).length = s.size := by rw [size_list]; rfl
    omega
  have r1 := fun (r : List UInt8) (hr : noDig r) => repP_app (p := parentP) (e := parentE) (ok := noDig) ps r hr (fun x hx r hr => by
    refine ⟨?_, noDig_cons (by decide)⟩
    rw [parentE, List.append_assoc]
    simp only [parentP, wordP_app, Option.bind_eq_bind, Option.bind_some]
    exact numP_app (p1 x hx).1 (p1 x hx).2 hr)
  have r2 := fun (r : List UInt8) => repP_app (p := fileP) (e := fileE) (ok := fun _ => True) fs r trivial (fun x hx r hr => by
    refine ⟨?_, trivial⟩
    have h1 := hf x hx
    simp only [fileE, List.append_assoc]
    simp only [fileP, textP_app (hsz _ h1.1), wordP_app, textP_app (hsz _ h1.2), Option.bind_eq_bind, Option.bind_some]
    simp only [str, toB_of])
  have r3 := fun (r : List UInt8) => repP_app (p := opP parseS) (e := opE) (ok := fun _ => True) os r trivial (fun x hx r hr => by
    refine ⟨?_, trivial⟩
    have h1 := ho x hx
    have d : toB (str (rfText x)) = rfText x := toB_of _
    simp only [opE, List.append_assoc]
    simp only [opP, textP_app (hsz _ h1.2), wordP_app, d, h1.1, Option.bind_eq_bind, Option.bind_some])
  have w1 : ∀ r, wordP (10 :: str ⟨#[112, 97, 114, 101, 110, 116, 115, 32]⟩) (10 :: (str ⟨#[112, 97, 114, 101, 110, 116, 115, 32]⟩ ++ r)) = some r := fun r => wordP_app (10 :: str ⟨#[112, 97, 114, 101, 110, 116, 115, 32]⟩) r
  have w2 : ∀ r, wordP (10 :: str ⟨#[109, 101, 115, 115, 97, 103, 101, 32]⟩) (10 :: (str ⟨#[109, 101, 115, 115, 97, 103, 101, 32]⟩ ++ r)) = some r := fun r => wordP_app (10 :: str ⟨#[109, 101, 115, 115, 97, 103, 101, 32]⟩) r
  have w3 : ∀ r, wordP (10 :: str ⟨#[102, 105, 108, 101, 115, 32]⟩) (10 :: (str ⟨#[102, 105, 108, 101, 115, 32]⟩ ++ r)) = some r := fun r => wordP_app (10 :: str ⟨#[102, 105, 108, 101, 115, 32]⟩) r
  have w4 : ∀ r, wordP [10] (10 :: r) = some r := fun r => wordP_app [10] r
  have w5 : ∀ r, wordP (str ⟨#[101, 110, 100]⟩ ++ [10]) (str ⟨#[101, 110, 100]⟩ ++ 10 :: r) = some r := fun r => by
    have := wordP_app (str ⟨#[101, 110, 100]⟩ ++ [10]) r
    simpa using this
  have nd : ∀ r, noDig (10 :: r) := fun r => noDig_cons (by decide)
  have n1 : ∀ r, numP (itoa id ++ (10 :: r)) = some (id, 10 :: r) := fun r => numP_app i1 i2 (nd r)
  have n2 : ∀ r, noDig r → numP (itoa ps.length ++ r) = some ((ps.length : Int), r) := fun r hr => numP_app (by omega) (by omega) hr
  have n3 : ∀ r, numP (itoa fs.length ++ (10 :: r)) = some ((fs.length : Int), 10 :: r) := fun r => numP_app (by omega) (by omega) (nd r)
  have n4 : ∀ r, numP (itoa os.length ++ (10 :: r)) = some ((os.length : Int), 10 :: r) := fun r => numP_app (by omega) (by omega) (nd r)
  have d : toB (str m) = m := toB_of _
  simp only [commitE, List.append_assoc, List.cons_append, List.nil_append]
  simp only [commitP, wordP_app, Option.bind_eq_bind, Option.bind_some, n1, w1]
  rw [n2 _ (r1 _ (nd _)).2]
  simp only [Option.bind_some, Int.toNat_natCast]
  rw [(r1 _ (nd _)).1]
  simp only [Option.bind_some, w2, textP_app (hsz _ hm), w3, n3, w4, Int.toNat_natCast, (r2 _).1, wordP_app, n4, (r3 _).1, w5, d]
end Go.Vg
set_option linter.unusedVariables false
set_option linter.unusedSimpArgs false
set_option maxRecDepth 20000
namespace Go.Vg
open Go Go.Lib
theorem str_len (s : ByteArray) : (str s).length = s.size := by rw [size_list]; rfl
theorem flat_bound {α : Type} (e : α → List UInt8) (B : Nat) : ∀ xs : List α, (∀ x ∈ xs, (e x).length ≤ B) → ((xs.map e).flatten).length ≤ B * xs.length
  | [], _ => Nat.zero_le _
  | y :: ys, h => by
    have h1 := h y (by simp)
    have h2 := flat_bound e B ys fun x hx => h x (by simp [hx])
    simp only [List.map_cons, List.flatten_cons, List.length_append, List.length_cons, Nat.mul_add, Nat.mul_one]
    omega
theorem textE_len (l : List UInt8) (h : l.length ≤ 1000000000) : (textE l).length ≤ l.length + 22 := by
  have := itoa_length_le (l.length : Int) (by omega) (by omega)
  simp only [textE, List.length_append, List.length_cons]
  omega
open Go.Proofs.YtellnbgljmocgaaGreatDoor in
theorem rfText_short {r : Rf} (h : shortB r = true) (hr : r.rng) : (rfText r).size ≤ 4400 := by
  simp only [shortB, Bool.and_eq_true, Bool.not_eq_true', Bool.or_eq_false_iff, decide_eq_false_iff_not, List.all_eq_true, decide_eq_true_eq] at h
  obtain ⟨⟨⟨⟨⟨⟨⟨⟨⟨h1, h2⟩, h3⟩, h4⟩, h5⟩, h6⟩, h7⟩, h8⟩, h9⟩, h10⟩ := h
  have f1 := fieldB_size ⟨#[112, 97, 116, 104]⟩ r.path
  have f2 := fieldB_size ⟨#[99, 108, 97, 115, 115]⟩ r.cls
  have f3 := fieldB_size ⟨#[102, 117, 110, 99]⟩ r.fn
  have f4 := fieldB_size ⟨#[110, 97, 109, 101]⟩ r.name
  have f5 := fieldB_size ⟨#[116, 111]⟩ r.new
  have f6 := fieldB_size ⟨#[110, 111, 100, 101]⟩ (numB r.node)
  have f7 := fieldB_size ⟨#[112, 111, 115]⟩ (numB r.pos)
  have f8 := fieldB_size ⟨#[111, 114, 100, 101, 114]⟩ (joinB (r.order.map itoaB))
  have f9 := fieldB_size ⟨#[116, 121, 112, 101, 115]⟩ (joinB r.types)
  have f10 := fieldB_size ⟨#[116, 101, 120, 116, 115]⟩ (joinB (r.texts.map (swapB 32 126)))
  have k1 : (⟨#[112, 97, 116, 104]⟩ : ByteArray).size = 4 := rfl
  have k2 : (⟨#[99, 108, 97, 115, 115]⟩ : ByteArray).size = 5 := rfl
  have k3 : (⟨#[102, 117, 110, 99]⟩ : ByteArray).size = 4 := rfl
  have k4 : (⟨#[110, 97, 109, 101]⟩ : ByteArray).size = 4 := rfl
  have k5 : (⟨#[116, 111]⟩ : ByteArray).size = 2 := rfl
  have k6 : (⟨#[110, 111, 100, 101]⟩ : ByteArray).size = 4 := rfl
  have k7 : (⟨#[112, 111, 115]⟩ : ByteArray).size = 3 := rfl
  have k8 : (⟨#[111, 114, 100, 101, 114]⟩ : ByteArray).size = 5 := rfl
  have k9 : (⟨#[116, 121, 112, 101, 115]⟩ : ByteArray).size = 5 := rfl
  have k10 : (⟨#[116, 101, 120, 116, 115]⟩ : ByteArray).size = 5 := rfl
  have z7 : (numB r.node).size ≤ 21 := by unfold numB; split; exact Nat.zero_le _; exact itoaB_size _ hr.n.1 hr.n.2
  have z8 : (numB r.pos).size ≤ 21 := by unfold numB; split; exact Nat.zero_le _; exact itoaB_size _ hr.p.1 hr.p.2
  have hws : (wordB r.kind).size ≤ 9 := by
    unfold wordB
    repeat' split
    all_goals decide
  have j9 := joinB_size 21 (r.order.map itoaB) (by
    intro x hx
    obtain ⟨n, hn, rfl⟩ := List.mem_map.1 hx
    exact itoaB_size n (hr.o n hn).1 (hr.o n hn).2)
  have j10 := joinB_size 80 r.types (fun x hx => by have := h9 x hx; omega)
  have j11 := joinB_size 80 (r.texts.map (swapB 32 126)) (by
    intro x hx
    obtain ⟨n, hn, rfl⟩ := List.mem_map.1 hx
    rw [swapB_size]
    have := h10 n hn; omega)
  rw [List.length_map] at j9 j11
  unfold rfText
  simp only [ByteArray.size_append]
  omega
theorem parentE_max {n : Int} (h0 : -9223372036854775808 ≤ n) (h1 : n ≤ 9223372036854775807) : (parentE n).length ≤ 22 := by
  have := itoa_length_le n h0 h1
  rw [parentE, List.length_append, Nat.add_comm]
  exact Nat.add_le_add_right this 1
theorem fileE_max {f : Fl} (h1 : f.path.size ≤ 200) (h2 : f.text.size ≤ 200) : (fileE f).length ≤ 500 := by
  have t1 := textE_len (str f.path) (by rw [str_len]; omega)
  have t2 := textE_len (str f.text) (by rw [str_len]; omega)
  rw [str_len] at t1 t2
  rw [fileE, List.length_append, List.length_append, List.length_append]
  have e : ([10] : List UInt8).length = 1 := rfl
  have e2 : (str ⟨#[32]⟩).length = 1 := rfl
  rw [e, e2]
  generalize (textE (str f.path)).length = y1 at *
  generalize (textE (str f.text)).length = y2 at *
  omega
theorem opE_max {r : Rf} (h : (rfText r).size ≤ 4400) : (opE r).length ≤ 4500 := by
  have t1 := textE_len (str (rfText r)) (by rw [str_len]; omega)
  rw [str_len] at t1
  rw [opE, List.length_append]
  have e : ([10] : List UInt8).length = 1 := rfl
  rw [e]
  generalize (textE (str (rfText r))).length = y1 at *
  omega
theorem commitE_sum (c : Cm) : (commitE c).length = (itoa c.id).length + (itoa (c.parents.length : Int)).length + (itoa (c.files.length : Int)).length + (itoa (c.ops.length : Int)).length + ((c.parents.map parentE).flatten).length + ((c.files.map fileE).flatten).length +
    ((c.ops.map opE).flatten).length + (textE (str c.msg)).length + 42 := by
  have e1 : (str ⟨#[99, 111, 109, 109, 105, 116, 32]⟩).length = 7 := rfl
  have e2 : (str ⟨#[112, 97, 114, 101, 110, 116, 115, 32]⟩).length = 8 := rfl
  have e3 : (str ⟨#[109, 101, 115, 115, 97, 103, 101, 32]⟩).length = 8 := rfl
  have e4 : (str ⟨#[102, 105, 108, 101, 115, 32]⟩).length = 6 := rfl
  have e5 : (str ⟨#[111, 112, 115, 32]⟩).length = 4 := rfl
  have e6 : (str ⟨#[101, 110, 100]⟩).length = 3 := rfl
  simp only [commitE, List.length_append, List.length_cons, List.length_nil]
  rw [e1, e2, e3, e4, e5, e6]
  clear e1 e2 e3 e4 e5 e6
  generalize (itoa c.id).length = x1
  generalize (itoa (c.parents.length : Int)).length = x2
  generalize (itoa (c.files.length : Int)).length = x3
  generalize (itoa (c.ops.length : Int)).length = x4
  generalize ((c.parents.map parentE).flatten).length = x5
  generalize ((c.files.map fileE).flatten).length = x6
  generalize ((c.ops.map opE).flatten).length = x7
  generalize (textE (str c.msg)).length = x8
  omega
theorem small_len {c : Cm} (h : smallB c = true) (hr : c.rng) : (commitE c).length ≤ 400000 := by
  simp only [smallB, Bool.and_eq_true, Bool.not_eq_true', Bool.or_eq_false_iff, decide_eq_false_iff_not, List.all_eq_true, decide_eq_true_eq] at h
  obtain ⟨⟨⟨⟨⟨h1, h2⟩, h3⟩, h4⟩, h5⟩, h6⟩ := h
  have i1 := itoa_length_le c.id hr.i.1 hr.i.2
  have i2 := itoa_length_le (c.parents.length : Int) (by omega) (by omega)
  have i3 := itoa_length_le (c.files.length : Int) (by omega) (by omega)
  have i4 := itoa_length_le (c.ops.length : Int) (by omega) (by omega)
  have b1 := flat_bound parentE 22 c.parents (fun n hn => parentE_max (hr.p n hn).1 (hr.p n hn).2)
  have b2 := flat_bound fileE 500 c.files (fun f hf => fileE_max (h5 f hf).1 (h5 f hf).2)
  have b3 := flat_bound opE 4500 c.ops (fun r hm => opE_max (rfText_short (h6 r hm) (hr.o r hm)))
  have t1 := textE_len (str c.msg) (by rw [str_len]; omega)
  rw [str_len] at t1
  rw [commitE_sum]
  generalize (itoa c.id).length = x1 at *
  generalize (itoa (c.parents.length : Int)).length = x2 at *
  generalize (itoa (c.files.length : Int)).length = x3 at *
  generalize (itoa (c.ops.length : Int)).length = x4 at *
  generalize ((c.parents.map parentE).flatten).length = x5 at *
  generalize ((c.files.map fileE).flatten).length = x6 at *
  generalize ((c.ops.map opE).flatten).length = x7 at *
  generalize (textE (str c.msg)).length = x8 at *
  clear h6 h5
  omega
/-- A checked commit's numbers. -/
theorem cmErr_num {c : Cm} (h : cmErr c = 0) : c.num ∧ ∀ r ∈ c.ops, rfErr r = 0 := by
  have ho := Go.Proofs.YtellnbgljmocgaaGreatDoor.cmErr_ops h
  unfold cmErr at h
  split at h
  · cases h
  rename_i h1
  split at h
  · cases h
  rename_i h2
  simp only [not_or, Int.not_lt, Int.not_le] at h1
  refine ⟨⟨h1.1, by omega, fun n hn => ?_⟩, ho⟩
  simp only [Bool.not_eq_true', Bool.not_eq_false] at h2
  unfold parentsB at h2
  simp only [Bool.and_eq_true, List.all_eq_true] at h2
  have := h2.2 n hn
  simp only [Bool.and_eq_true, Bool.not_eq_true', Bool.or_eq_false_iff, decide_eq_false_iff_not, decide_eq_true_eq] at this
  omega
theorem read_back {c : Cm} (h : cmErr c = 0) (hok : c.ok) (more : List UInt8) : commitP parseS (commitE c ++ more) = some (c, more) := by
  obtain ⟨h1, h2⟩ := cmErr_num h
  refine commit_app h1 ⟨by have := hok.l1; omega, by have := hok.l2; omega, by have := hok.l3; omega⟩ (fun f hf => by have := hok.f1 f hf; omega) (by have := hok.m1; omega) (fun r hr => ⟨parse_print (h2 r hr) (hok.o1 r hr).good, ?_⟩) more
  have := Go.Proofs.YtellnbgljmocgaaGreatDoor.rfText_size r (hok.o1 r hr) (h2 r hr)
  omega
theorem textE_le (l : List UInt8) : l.length ≤ (textE l).length := by
  rw [textE, List.length_append, List.length_cons]
  exact Nat.le_trans (Nat.le_succ _) (Nat.le_add_left _ _)
theorem fileE_len (f : Fl) : 1 ≤ (fileE f).length ∧ (str f.path).length + (str f.text).length ≤ (fileE f).length := by
  have z1 := textE_le (str f.path)
  have z2 := textE_le (str f.text)
  rw [fileE, List.length_append, List.length_append, List.length_append]
  have e : ([10] : List UInt8).length = 1 := rfl
  rw [e]
  generalize (textE (str f.path)).length = y1 at *
  generalize (textE (str f.text)).length = y2 at *
  generalize (str f.path).length = y3 at *
  generalize (str f.text).length = y4 at *
  omega
theorem commitE_parts (c : Cm) : ((c.parents.map parentE).flatten).length ≤ (commitE c).length ∧ ((c.files.map fileE).flatten).length ≤ (commitE c).length ∧ ((c.ops.map opE).flatten).length ≤ (commitE c).length ∧ (textE (str c.msg)).length ≤ (commitE c).length := by
  simp only [commitE, List.length_append, List.length_cons, List.length_nil]
  generalize (itoa c.id).length = x1
  generalize (itoa (c.parents.length : Int)).length = x2
  generalize (itoa (c.files.length : Int)).length = x3
  generalize (itoa (c.ops.length : Int)).length = x4
  generalize ((c.parents.map parentE).flatten).length = x5
  generalize ((c.files.map fileE).flatten).length = x6
  generalize ((c.ops.map opE).flatten).length = x7
  generalize (textE (str c.msg)).length = x8
  generalize (str ⟨#[99, 111, 109, 109, 105, 116, 32]⟩).length = x9
  generalize (str ⟨#[112, 97, 114, 101, 110, 116, 115, 32]⟩).length = x10
  generalize (str ⟨#[109, 101, 115, 115, 97, 103, 101, 32]⟩).length = x11
  generalize (str ⟨#[102, 105, 108, 101, 115, 32]⟩).length = x12
  generalize (str ⟨#[111, 112, 115, 32]⟩).length = x13
  generalize (str ⟨#[101, 110, 100]⟩).length = x14
  omega
theorem parse_ok {t : ByteArray} {r : Rf} (h : parseS t = some r) (ht : t.size ≤ 900000) : r.ok := by
  unfold parseS at h
  cases hr : readRf t with
  | none => rw [hr] at h; cases h
  | some r' =>
    rw [hr] at h
    simp only at h
    split at h
    · cases h
      unfold readRf at hr
      have hm := spaces_mem t
      split at hr
      · cases hr
      · rename_i w l hwl
        rw [hwl] at hm
        exact setAll_ok l _ _ (kindRf_ok _) (fun x hx => by have := hm x (by simp [hx]); omega) hr
    · cases h
theorem small_all {s : ByteArray} {c : Cm} {rest : List UInt8} (hs : s.size ≤ 2000) (he : str s = commitE c ++ rest) : (commitE c).length ≤ 2000 := by
  have := congrArg List.length he
  rw [str_len, List.length_append] at this
  omega
theorem small_files {s : ByteArray} {c : Cm} {rest : List UInt8} (hs : s.size ≤ 2000) (he : str s = commitE c ++ rest) : ∀ f ∈ c.files, f.path.size ≤ 2000 ∧ f.text.size ≤ 2000 := fun f hf => by
  have hl := small_all hs he
  have q := flat_le fileE c.files f hf
  have z := (fileE_len f).2
  have q6 := (commitE_parts c).2.1
  rw [str_len, str_len] at z
  generalize (fileE f).length = y1 at *
  generalize ((c.files.map fileE).flatten).length = y2 at *
  generalize (commitE c).length = y3 at *
  omega
theorem small_ops {s : ByteArray} {c : Cm} {rest : List UInt8} (hs : s.size ≤ 2000) (he : str s = commitE c ++ rest) : ∀ r ∈ c.ops, (rfText r).size ≤ 2000 := fun r hr => by
  have hl := small_all hs he
  have q := flat_le opE c.ops r hr
  have z1 := textE_le (str (rfText r))
  have q6 := (commitE_parts c).2.2.1
  rw [str_len] at z1
  have q3 : (opE r).length = (textE (str (rfText r))).length + 1 := by rw [opE, List.length_append]; rfl
  generalize (opE r).length = y1 at *
  generalize ((c.ops.map opE).flatten).length = y2 at *
  generalize (textE (str (rfText r))).length = y3 at *
  generalize (commitE c).length = y4 at *
  omega
/-- What is read of a short text: a commit within the bounds. -/
theorem read_ok {s : ByteArray} {c : Cm} {rest : List UInt8} (hs : s.size ≤ 2000) (h : commitP parseS (str s) = some (c, rest)) : c.ok ∧ str s = commitE c ++ rest := by
  obtain ⟨he, hn, ho⟩ := commit_inv h
  refine ⟨?_, he⟩
  have hl : (commitE c).length ≤ 2000 := by
    have := congrArg List.length he
    rw [str_len, List.length_append] at this
    omega
  obtain ⟨q5, q6, q7, q8⟩ := commitE_parts c
  have l1 := flat_len parentE (fun n => by rw [parentE, List.length_append]; exact Nat.le_add_right_of_le (Nat.le_refl 1)) c.parents
  have l2 := flat_len fileE (fun n => Nat.le_trans (by decide : 1 ≤ 1) (fileE_len n).1) c.files
  have l3 := flat_len opE (fun n => by rw [opE, List.length_append]; exact Nat.le_add_left_of_le (Nat.le_refl 1)) c.ops
  have m1 := textE_le (str c.msg)
  have hfs : ∀ f ∈ c.files, f.path.size ≤ 2000 ∧ f.text.size ≤ 2000 := fun f hf => by
    have q := flat_le fileE c.files f hf
    have z := (fileE_len f).2
    rw [str_len, str_len] at z
    generalize (fileE f).length = y1 at *
    generalize ((c.files.map fileE).flatten).length = y2 at *
    omega
  have hos : ∀ r ∈ c.ops, (rfText r).size ≤ 2000 := fun r hr => by
    have q := flat_le opE c.ops r hr
    have z1 := textE_le (str (rfText r))
    rw [str_len] at z1
    have q3 : (opE r).length = (textE (str (rfText r))).length + 1 := by rw [opE, List.length_append]; rfl
    generalize (opE r).length = y1 at *
    generalize ((c.ops.map opE).flatten).length = y2 at *
    generalize (textE (str (rfText r))).length = y3 at *
    omega
  rw [str_len] at m1
  generalize (commitE c).length = y0 at *
  generalize ((c.parents.map parentE).flatten).length = y5 at *
  generalize ((c.files.map fileE).flatten).length = y6 at *
  generalize ((c.ops.map opE).flatten).length = y7 at *
  generalize (textE (str c.msg)).length = y8 at *
  refine ⟨by have := hn.i1; omega, hn.i2, fun n hm => by have := hn.p1 n hm; omega, by omega, by omega, by omega, fun f hf => by have := hfs f hf; omega, by omega, fun r hr => ?_⟩
  exact parse_ok (ho r hr) (by have := hos r hr; omega)
/-- A part of a commit's text is no commit's text. -/
theorem read_cut {s : ByteArray} {c c' : Cm} {rest rest' : List UInt8} {k : Nat} (hs : s.size ≤ 2000) (h : commitP parseS (str s) = some (c, rest)) (hk : k < (commitE c).length) (h' : commitP parseS ((str s).take k) = some (c', rest')) (he : cmErr c' = 0) : False := by
  have hs' : (toB ((str s).take k)).size ≤ 2000 := by
    rw [size_list]
    show ((str s).take k).length ≤ _
    rw [List.length_take, str_len]; omega
  obtain ⟨hok, e'⟩ := read_ok (s := toB ((str s).take k)) hs' h'
  have e' : (str s).take k = commitE c' ++ rest' := e'
  have hb := read_back he hok (rest' ++ (str s).drop k)
  rw [← List.append_assoc, ← e', List.take_append_drop, h] at hb
  cases hb
  have := congrArg List.length e'
  rw [List.length_take, List.length_append] at this
  omega
end Go.Vg
