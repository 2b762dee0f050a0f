/- What a short refactoring and a small commit are, in plain words. -/
import Derived.Test.YtellnbgljmocgaaGreatDoorTcL
set_option linter.unusedVariables false
set_option linter.unusedSimpArgs false
set_option maxRecDepth 20000
namespace Go.Vg
@[go_sem] theorem vBin_bool_neq {E : Env} {t : TypeId} {a b : Bool} {M : V → Prop} : vBin E .neq t (.bool a) (.bool b) M = (E.P.underlying t = some .bool ∧ M (.bool (!(a == b)))) := rfl
@[go_sem] theorem vBin_bool_eql {E : Env} {t : TypeId} {a b : Bool} {M : V → Prop} : vBin E .eql t (.bool a) (.bool b) M = (E.P.underlying t = some .bool ∧ M (.bool (a == b))) := rfl
def shortB (r : Rf) : Bool := !(decide (80 < r.path.size) || decide (80 < r.cls.size) || decide (80 < r.fn.size) || decide (80 < r.name.size) || decide (80 < r.new.size) || decide (20 < r.order.length) || decide (20 < r.types.length) || decide (20 < r.texts.length)) &&
  (r.types.all fun s => decide (s.size ≤ 80)) && r.texts.all fun s => decide (s.size ≤ 80)
def smallB (c : Cm) : Bool := !(decide (6 < c.parents.length) || decide (40 < c.files.length) || decide (300 < c.msg.size) || decide (70 < c.ops.length)) &&
  (c.files.all fun f => decide (f.path.size ≤ 200) && decide (f.text.size ≤ 200)) && c.ops.all shortB
theorem all_no {α : Type} {pre post : List α} {x : α} {p : α → Bool} (h : p x = false) : (pre ++ x :: post).all p = false := by simp [h]
theorem next_ok {α : Type} {pre post : List α} {x : α} (h : (pre ++ x :: post).length ≤ 140737488355328) : IntKind.i64.wrap ((pre.length : Int) + 1) = ((pre.length + 1 : Nat) : Int) := by
  rw [List.length_append, List.length_cons] at h
  rw [Go.Vg.wrap_small (by omega) (by omega)]
  rfl
end Go.Vg
namespace Go.Vg
/-- The numbers of a refactoring are numbers. -/
def i64 (n : Int) : Prop := -9223372036854775808 ≤ n ∧ n ≤ 9223372036854775807
structure Rf.rng (r : Rf) : Prop where
  k : i64 r.kind
  n : i64 r.node
  p : i64 r.pos
  o : ∀ n ∈ r.order, i64 n
structure Cm.rng (c : Cm) : Prop where
  i : i64 c.id
  p : ∀ n ∈ c.parents, i64 n
  o : ∀ r ∈ c.ops, r.rng
theorem short_ok {r : Rf} (h : shortB r = true) (hr : r.rng) : r.ok := by
  simp only [shortB, Bool.and_eq_true, Bool.not_eq_true', Bool.or_eq_false_iff, decide_eq_false_iff_not, List.all_eq_true, decide_eq_true_eq] at h
  obtain ⟨⟨⟨⟨⟨⟨⟨⟨⟨h1, h2⟩, h3⟩, h4⟩, h5⟩, h6⟩, h7⟩, h8⟩, h9⟩, h10⟩ := h
  exact ⟨by omega, by omega, by omega, by omega, by omega, hr.n.1, hr.n.2, hr.p.1, hr.p.2, hr.o, by omega, by omega, by omega, fun s hs => by have := h9 s hs; omega, fun s hs => by have := h10 s hs; omega⟩
theorem small_ok {c : Cm} (h : smallB c = true) (hr : c.rng) : c.ok := by
  simp only [smallB, Bool.and_eq_true, Bool.not_eq_true', Bool.or_eq_false_iff, decide_eq_false_iff_not, List.all_eq_true, decide_eq_true_eq] at h
  obtain ⟨⟨⟨⟨⟨h1, h2⟩, h3⟩, h4⟩, h5⟩, h6⟩ := h
  exact ⟨hr.i.1, hr.i.2, hr.p, by omega, by omega, by omega, fun f hf => by have := h5 f hf; omega, by omega, fun r hm => short_ok (h6 r hm) (hr.o r hm)⟩
end Go.Vg
