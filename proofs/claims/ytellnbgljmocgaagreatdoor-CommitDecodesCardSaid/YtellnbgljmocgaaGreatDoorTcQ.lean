/- Commits that were written are read again; what is read was written so. -/
import Derived.Test.YtellnbgljmocgaaGreatDoorTcA
import Derived.Test.YtellnbgljmocgaaGreatDoorTcP
import Derived.Lib.AtoiAllCases
set_option linter.unusedVariables false
set_option linter.unusedSimpArgs false
namespace Go.Vg
open Go Go.Lib

def isDig (c : UInt8) : Bool := decide (48 ≤ c.toNat) && decide (c.toNat ≤ 57)
def wordP (w l : List UInt8) : Option (List UInt8) := if w.isPrefixOf l then some (l.drop w.length) else none
def numP (l : List UInt8) : Option (Int × List UInt8) := match atoiAll (l.takeWhile isDig) with
  | .ok v => if itoa v = l.takeWhile isDig then some (v, l.dropWhile isDig) else none
  | _ => none
def textP (l : List UInt8) : Option (List UInt8 × List UInt8) := do
  let (n, l) ← numP l
  let l ← wordP [58] l
  if n ≤ l.length then some (l.take n.toNat, l.drop n.toNat) else none
def repP {α : Type} (p : List UInt8 → Option (α × List UInt8)) : Nat → List UInt8 → Option (List α × List UInt8)
  | 0, l => some ([], l)
  | n + 1, l => do
    let (x, l) ← p l
    let (xs, l) ← repP p n l
    some (x :: xs, l)
def toB (l : List UInt8) : ByteArray := ⟨l.toArray⟩
theorem toB_list (l : List UInt8) : (toB l).data.toList = l := rfl
theorem toB_of (s : ByteArray) : toB s.data.toList = s := by cases s; rfl
def str (s : ByteArray) : List UInt8 := s.data.toList
def parentP (l : List UInt8) : Option (Int × List UInt8) := do
  let l ← wordP (str ⟨#[32]⟩) l
  numP l
def fileP (l : List UInt8) : Option (Fl × List UInt8) := do
  let (p, l) ← textP l
  let l ← wordP (str ⟨#[32]⟩) l
  let (t, l) ← textP l
  let l ← wordP [10] l
  some (⟨toB p, toB t⟩, l)
def opP (parse : ByteArray → Option Rf) (l : List UInt8) : Option (Rf × List UInt8) := do
  let (t, l) ← textP l
  let r ← parse (toB t)
  let l ← wordP [10] l
  some (r, l)
def commitP (parse : ByteArray → Option Rf) (l : List UInt8) : Option (Cm × List UInt8) := do
  let l ← wordP (str ⟨#[99, 111, 109, 109, 105, 116, 32]⟩) l
  let (id, l) ← numP l
  let l ← wordP (10 :: str ⟨#[112, 97, 114, 101, 110, 116, 115, 32]⟩) l
  let (np, l) ← numP l
  let (ps, l) ← repP parentP np.toNat l
  let l ← wordP (10 :: str ⟨#[109, 101, 115, 115, 97, 103, 101, 32]⟩) l
  let (m, l) ← textP l
  let l ← wordP (10 :: str ⟨#[102, 105, 108, 101, 115, 32]⟩) l
  let (nf, l) ← numP l
  let l ← wordP [10] l
  let (fs, l) ← repP fileP nf.toNat l
  let l ← wordP (str ⟨#[111, 112, 115, 32]⟩) l
  let (no, l) ← numP l
  let l ← wordP [10] l
  let (os, l) ← repP (opP parse) no.toNat l
  let l ← wordP (str ⟨#[101, 110, 100]⟩ ++ [10]) l
  some (⟨id, ps, fs, toB m, os⟩, l)

def textE (l : List UInt8) : List UInt8 := itoa l.length ++ 58 :: l
def parentE (n : Int) : List UInt8 := str ⟨#[32]⟩ ++ itoa n
def fileE (f : Fl) : List UInt8 := textE (str f.path) ++ (str ⟨#[32]⟩ ++ (textE (str f.text) ++ [10]))
def opE (r : Rf) : List UInt8 := textE (str (rfText r)) ++ [10]
def commitE (c : Cm) : List UInt8 :=
  str ⟨#[99, 111, 109, 109, 105, 116, 32]⟩ ++ (itoa c.id ++ (10 :: str ⟨#[112, 97, 114, 101, 110, 116, 115, 32]⟩ ++ (itoa c.parents.length ++ ((c.parents.map parentE).flatten ++ (10 :: str ⟨#[109, 101, 115, 115, 97, 103, 101, 32]⟩ ++ (textE (str c.msg) ++ (10 :: str ⟨#[102, 105, 108, 101, 115, 32]⟩ ++ (itoa c.files.length ++ ([10] ++
    ((c.files.map fileE).flatten ++ (str ⟨#[111, 112, 115, 32]⟩ ++ (itoa c.ops.length ++ ([10] ++ ((c.ops.map opE).flatten ++ (str ⟨#[101, 110, 100]⟩ ++ [10])))))))))))))))

/-! ### What is read was written so -/
theorem wordP_some {w l r : List UInt8} (h : wordP w l = some r) : l = w ++ r := by
  unfold wordP at h
  split at h
  · rename_i hp
    obtain ⟨t, ht⟩ := List.isPrefixOf_iff_prefix.1 hp
    subst ht
    simp only [Option.some.injEq] at h
    subst h; simp
  · cases h
theorem tw_all {p : UInt8 → Bool} : ∀ (l : List UInt8) c, c ∈ l.takeWhile p → p c = true
  | [], c, h => by simp at h
  | x :: l, c, h => by
    rw [List.takeWhile_cons] at h
    split at h
    · rename_i hx
      rcases List.mem_cons.1 h with rfl | h
      · exact hx
      · exact tw_all l c h
    · cases h
theorem numP_some {l r : List UInt8} {v : Int} (h : numP l = some (v, r)) : l = itoa v ++ r ∧ 0 ≤ v ∧ v ≤ 9223372036854775807 := by
  unfold numP at h
  split at h
  · rename_i u hu
    split at h
    · rename_i he
      simp only [Option.some.injEq, Prod.mk.injEq] at h
      obtain ⟨rfl, rfl⟩ := h
      refine ⟨by rw [he]; exact (List.takeWhile_append_dropWhile).symm, ?_, ?_⟩
      · rcases Int.lt_or_le u 0 with hn | hn
        · exfalso
          unfold itoa at he
          rw [if_pos hn] at he
          have : (45 : UInt8) ∈ l.takeWhile isDig := by rw [← he]; simp
          have := tw_all _ _ this
          revert this; decide
        · exact hn
      · exact (atoiAll_bounds hu).2
    · cases h
  · cases h
theorem textP_some {l t r : List UInt8} (h : textP l = some (t, r)) : l = textE t ++ r := by
  simp only [textP, Option.bind_eq_bind, Option.bind_eq_some_iff, Prod.exists] at h
  obtain ⟨n, l1, h1, l2, h2, h3⟩ := h
  obtain ⟨rfl, hn, _⟩ := numP_some h1
  have := wordP_some h2
  subst this
  split at h3
  · rename_i hle
    simp only [Option.some.injEq, Prod.mk.injEq] at h3
    obtain ⟨rfl, rfl⟩ := h3
    have : ((l2.take n.toNat).length : Int) = n := by rw [List.length_take]; omega
    simp only [textE]
    rw [this]; simp
  · cases h3
theorem repP_some {α : Type} {p : List UInt8 → Option (α × List UInt8)} {e : α → List UInt8} {Q : α → Prop} (hp : ∀ l x r, p l = some (x, r) → l = e x ++ r ∧ Q x) :
    ∀ (n : Nat) (l : List UInt8) (xs : List α) (r : List UInt8), repP p n l = some (xs, r) → l = (xs.map e).flatten ++ r ∧ xs.length = n ∧ ∀ x ∈ xs, Q x
  | 0, l, xs, r, h => by
    simp only [repP, Option.some.injEq, Prod.mk.injEq] at h
    obtain ⟨rfl, rfl⟩ := h
    simp
  | n + 1, l, xs, r, h => by
    simp only [repP, Option.bind_eq_bind, Option.bind_eq_some_iff, Prod.exists, Option.some.injEq, Prod.mk.injEq] at h
    obtain ⟨x, l1, h1, ys, l2, h2, rfl, rfl⟩ := h
    obtain ⟨rfl, hq⟩ := hp _ _ _ h1
    obtain ⟨rfl, rfl, hqs⟩ := repP_some hp n _ _ _ h2
    refine ⟨by simp, rfl, fun y hy => ?_⟩
    rcases List.mem_cons.1 hy with rfl | hy
    · exact hq
    · exact hqs y hy

/-! ### What was written is read -/
theorem wordP_app (w r : List UInt8) : wordP w (w ++ r) = some r := by
  unfold wordP
  rw [if_pos (List.isPrefixOf_iff_prefix.2 (List.prefix_append w r))]
  simp
def noDig (l : List UInt8) : Prop := ∀ c r, l = c :: r → isDig c = false
theorem takeWhile_app {l r : List UInt8} (hl : ∀ c ∈ l, isDig c = true) (hr : noDig r) : (l ++ r).takeWhile isDig = l ∧ (l ++ r).dropWhile isDig = r := by
  induction l with
  | nil =>
    cases r with
    | nil => simp
    | cons c r => have := hr c r rfl; simp [this]
  | cons c l ih =>
    have h1 := hl c (by simp)
    obtain ⟨h2, h3⟩ := ih fun x hx => hl x (by simp [hx])
    simp [h1, h2, h3]
theorem itoa_dig {n : Int} (hn : 0 ≤ n) : ∀ c ∈ itoa n, isDig c = true := by
  unfold itoa
  rw [if_neg (by omega)]
  intro c hc
  have := dec_all _ c hc
  simp [isDig, this]
theorem numP_app {n : Int} (h0 : 0 ≤ n) (h1 : n ≤ 9223372036854775807) {r : List UInt8} (hr : noDig r) : numP (itoa n ++ r) = some (n, r) := by
  obtain ⟨e1, e2⟩ := takeWhile_app (itoa_dig h0) hr
  unfold numP
  rw [e1, e2, atoi_itoa (by omega) h1]
  simp
theorem textP_app {t : List UInt8} (ht : (t.length : Int) ≤ 9223372036854775807) (r : List UInt8) : textP (textE t ++ r) = some (t, r) := by
  unfold textP textE
  rw [List.append_assoc, numP_app (by omega) ht (by intro c q hc; simp at hc; rw [← hc.1]; decide)]
  simp only [List.cons_append, Option.bind_eq_bind, Option.bind_some]
  rw [show (58 : UInt8) :: (t ++ r) = [58] ++ (t ++ r) from rfl, wordP_app]
  simp
theorem repP_app {α : Type} {p : List UInt8 → Option (α × List UInt8)} {e : α → List UInt8} {ok : List UInt8 → Prop} : ∀ (xs : List α) (r : List UInt8), ok r →
    (∀ x ∈ xs, ∀ r, ok r → p (e x ++ r) = some (x, r) ∧ ok (e x ++ r)) → repP p xs.length ((xs.map e).flatten ++ r) = some (xs, r) ∧ ok ((xs.map e).flatten ++ r)
  | [], r, hr, _ => ⟨rfl, hr⟩
  | x :: xs, r, hr, h => by
    obtain ⟨h1, h2⟩ := repP_app xs r hr fun y hy => h y (by simp [hy])
    obtain ⟨h3, h4⟩ := h x (by simp) _ h2
    refine ⟨?_, by simpa using h4⟩
    simp only [List.length_cons, repP, List.map_cons, List.flatten_cons, List.append_assoc, h3, h1, Option.bind_eq_bind, Option.bind_some]
end Go.Vg
