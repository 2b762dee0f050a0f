/- The law's functions on small commits. -/
import Derived.Test.YtnlgaipnpebajaaGreatDoorTcL
set_option linter.unusedVariables false
set_option linter.unusedSimpArgs false
set_option maxRecDepth 20000
namespace Go.Vg
@[go_sem] theorem vBin_bool_neq {E : Env} {t : TypeId} {a b : Bool} {M : V → Prop} : vBin E .neq t (.bool a) (.bool b) M = (E.P.underlying t = some .bool ∧ M (.bool (!(a == b)))) := rfl
@[go_sem] theorem vBin_bool_eql {E : Env} {t : TypeId} {a b : Bool} {M : V → Prop} : vBin E .eql t (.bool a) (.bool b) M = (E.P.underlying t = some .bool ∧ M (.bool (a == b))) := rfl
def shortB (r : Rf) : Bool := !(decide (80 < r.path.size) || decide (80 < r.cls.size) || decide (80 < r.fn.size) || decide (80 < r.name.size) || decide (80 < r.new.size) || decide (20 < r.order.length) || decide (20 < r.types.length) || decide (20 < r.texts.length)) &&
  (r.types.all fun s => decide (s.size ≤ 80)) && r.texts.all fun s => decide (s.size ≤ 80)
def smallB (c : Cm) : Bool := !(decide (6 < c.parents.length) || decide (40 < c.files.length) || decide (300 < c.msg.size) || decide (70 < c.ops.length)) &&
  (c.files.all fun f => decide (f.path.size ≤ 200) && decide (f.text.size ≤ 200)) && c.ops.all shortB
theorem all_no {α : Type} {pre post : List α} {x : α} {p : α → Bool} (h : p x = false) : (pre ++ x :: post).all p = false := by simp [h]
theorem next_ok {α : Type} {pre post : List α} {x : α} (h : (pre ++ x :: post).length ≤ 140737488355328) : IntKind.i64.wrap ((pre.length : Int) + 1) = ((pre.length + 1 : Nat) : Int) := by
  rw [List.length_append, List.length_cons] at h
  rw [Go.Vg.wrap_small (by omega) (by omega)]
  rfl
end Go.Vg
namespace Go.Proofs.YtnlgaipnpebajaaGreatDoor
open Go Go.Vg Go.Proofs
theorem Short (r : Rf) : VPure env 11 [.agg r.enc] (.bool (shortB r)) := by
  obtain ⟨a1, a2, a3, a4, a5, a6, a7, a8, a9, a10, a11⟩ := r
  refine vpure_snd (fn := Tryz.f11) Tryz.func11 rfl (by rw [Tryz.ntmps11]; simp) (by simp -implicitDefEqProofs only [go_sem]) rfl ?_
  simp only [Tryz.f11]
  refine vc_snd _ _ _ ?_
  have hb8 : @LE.le Nat _ 0 8 := by decide
  by_cases h0 : 80 < a2.size ∨ 80 < a3.size ∨ 80 < a4.size ∨ 80 < a5.size ∨ 80 < a6.size ∨ 20 < a9.length ∨ 20 < a10.length ∨ 20 < a11.length
  · have hs : shortB ⟨a1, a2, a3, a4, a5, a6, a7, a8, a9, a10, a11⟩ = false := by
      have e : (decide (80 < a2.size) || decide (80 < a3.size) || decide (80 < a4.size) || decide (80 < a5.size) || decide (80 < a6.size) || decide (20 < a9.length) || decide (20 < a10.length) || decide (20 < a11.length)) = true := by
        simp only [Bool.or_eq_true, decide_eq_true_eq, or_assoc]
        exact h0
      simp only [shortB]
      rw [e]
      rfl
    simp -implicitDefEqProofs only [go_sem, hs]
    repeat' (first | apply And.intro | (refine fun (_ : @LT.lt Int _ _ _) => ?_) | (refine fun (_ : @LE.le Nat _ _ _) => ?_) | (refine fun (_ : Not _) => ?_))
    exfalso
    omega
  · have d2 : (80 < (a2.size : Int)) = False := eq_false (by omega)
    have d3 : (80 < (a3.size : Int)) = False := eq_false (by omega)
    have d4 : (80 < (a4.size : Int)) = False := eq_false (by omega)
    have d5 : (80 < (a5.size : Int)) = False := eq_false (by omega)
    have d6 : (80 < (a6.size : Int)) = False := eq_false (by omega)
    have d9 : (20 < (a9.length : Int)) = False := eq_false (by omega)
    have d10 : (20 < (a10.length : Int)) = False := eq_false (by omega)
    have d11 : (20 < (a11.length : Int)) = False := eq_false (by omega)
    simp -implicitDefEqProofs only [go_sem, d2, d3, d4, d5, d6, d9, d10, d11]
    repeat' (refine fun (_ : @LE.le Nat _ _ _) => ?_)
    have hs : shortB ⟨a1, a2, a3, a4, a5, a6, a7, a8, a9, a10, a11⟩ = ((a10.all fun s => decide (s.size ≤ 80)) && a11.all fun s => decide (s.size ≤ 80)) := by
      simp only [shortB]
      have e : (decide (80 < a2.size) || decide (80 < a3.size) || decide (80 < a4.size) || decide (80 < a5.size) || decide (80 < a6.size) || decide (20 < a9.length) || decide (20 < a10.length) || decide (20 < a11.length)) = false := by
        rw [Bool.eq_false_iff]
        intro h
        simp only [Bool.or_eq_true, decide_eq_true_eq, or_assoc] at h
        exact h0 h
      rw [e]
      rfl
    rw [hs]
    refine snd_list (β := Unit) a10 (fun pre _ => ⟨[(3, .int .i64 pre.length), (1, .ptr 0 0)], [.cells [.int .i64 a1, .str a2, .str a3, .str a4, .str a5, .str a6, .int .i64 a7, .int .i64 a8, sl 3 (a9.map encI), sl 9 (a10.map encS), sl 9 (a11.map encS)]], []⟩) (fun pre _ _ => ∀ s ∈ pre, s.size ≤ 80) () ?_ (by simp) ?_ ?_
    · simp -implicitDefEqProofs only [go_sem]
      rfl
    · intro _ hp
      have hp10 : (a10.all fun s => decide (s.size ≤ 80)) = true := by rw [List.all_eq_true]; intro s hs; simpa using hp s hs
      rw [hp10, Bool.true_and]
      simp -implicitDefEqProofs only [go_sem]
      repeat' (refine fun (_ : @LE.le Nat _ _ _) => ?_)
      refine snd_list (β := Unit) a11 (fun pre _ => ⟨[(4, .int .i64 pre.length), (1, .ptr 0 0)], [.cells [.int .i64 a1, .str a2, .str a3, .str a4, .str a5, .str a6, .int .i64 a7, .int .i64 a8, sl 3 (a9.map encI), sl 9 (a10.map encS), sl 9 (a11.map encS)]], []⟩) (fun pre _ _ => ∀ s ∈ pre, s.size ≤ 80) () ?_ (by simp) ?_ ?_
      · simp -implicitDefEqProofs only [go_sem]
        rfl
      · intro _ hp
        have hp11 : (a11.all fun s => decide (s.size ≤ 80)) = true := by rw [List.all_eq_true]; intro s hs; simpa using hp s hs
        simp -implicitDefEqProofs only [go_sem, hp11]
      · rintro pre x post _ rfl hp
        have hl2 : ((pre.length : Int) < ((pre ++ x :: post).length : Int)) = True := mid_lt
        simp -implicitDefEqProofs only [go_sem, hl2, encS]
        refine fun _ h2 _ => ⟨fun h => ?_, fun h => ⟨(), ?_, next_ok h2⟩⟩
        · rw [all_no (by simp; omega)]
        · intro s hs
          rcases List.mem_append.1 hs with hs | hs
          · exact hp s hs
          · rw [List.mem_singleton.1 hs]; omega
    · rintro pre x post _ rfl hp
      have hl2 : ((pre.length : Int) < ((pre ++ x :: post).length : Int)) = True := mid_lt
      simp -implicitDefEqProofs only [go_sem, hl2, encS]
      refine fun _ h2 _ => ⟨fun h => ?_, fun h => ⟨(), ?_, next_ok h2⟩⟩
      · rw [all_no (by simp; omega)]
        rfl
      · intro s hs
        rcases List.mem_append.1 hs with hs | hs
        · exact hp s hs
        · rw [List.mem_singleton.1 hs]; omega
theorem Small (c : Cm) : VPure env 5 [.agg c.enc] (.bool (smallB c)) := by
  obtain ⟨a1, a2, a3, a4, a5⟩ := c
  refine vpure_snd (fn := Tryz.f5) Tryz.func5 rfl (by rw [Tryz.ntmps5]; simp) (by simp -implicitDefEqProofs only [go_sem]) rfl ?_
  simp only [Tryz.f5]
  refine vc_snd _ _ _ ?_
  by_cases h0 : 6 < a2.length ∨ 40 < a3.length ∨ 300 < a4.size ∨ 70 < a5.length
  · have hs : smallB ⟨a1, a2, a3, a4, a5⟩ = false := by
      have e : (decide (6 < a2.length) || decide (40 < a3.length) || decide (300 < a4.size) || decide (70 < a5.length)) = true := by
        simp only [Bool.or_eq_true, decide_eq_true_eq, or_assoc]
        exact h0
      simp only [smallB]
      rw [e]
      rfl
    simp -implicitDefEqProofs only [go_sem, hs]
    repeat' (first | apply And.intro | (refine fun (_ : @LT.lt Int _ _ _) => ?_) | (refine fun (_ : @LE.le Nat _ _ _) => ?_) | (refine fun (_ : Not _) => ?_))
    exfalso
    omega
  · have d2 : (6 < (a2.length : Int)) = False := eq_false (by omega)
    have d3 : (40 < (a3.length : Int)) = False := eq_false (by omega)
    have d4 : (300 < (a4.size : Int)) = False := eq_false (by omega)
    have d5 : (70 < (a5.length : Int)) = False := eq_false (by omega)
    simp -implicitDefEqProofs only [go_sem, d2, d3, d4, d5]
    repeat' (refine fun (_ : @LE.le Nat _ _ _) => ?_)
    have hs : smallB ⟨a1, a2, a3, a4, a5⟩ = ((a3.all fun f => decide (f.path.size ≤ 200) && decide (f.text.size ≤ 200)) && a5.all shortB) := by
      simp only [smallB]
      have e : (decide (6 < a2.length) || decide (40 < a3.length) || decide (300 < a4.size) || decide (70 < a5.length)) = false := by
        rw [Bool.eq_false_iff]
        intro h
        simp only [Bool.or_eq_true, decide_eq_true_eq, or_assoc] at h
        exact h0 h
      rw [e]
      rfl
    rw [hs]
    refine snd_list (β := Unit) a3 (fun pre _ => ⟨[(3, .int .i64 pre.length), (1, .ptr 0 0)], [.cells [.int .i64 a1, sl 3 (a2.map encI), sl 39 (a3.map Fl.enc), .str a4, sl 43 (a5.map Rf.enc)]], []⟩) (fun pre _ _ => ∀ f ∈ pre, f.path.size ≤ 200 ∧ f.text.size ≤ 200) () ?_ (by simp) ?_ ?_
    · simp -implicitDefEqProofs only [go_sem]
      rfl
    · intro _ hp
      have hp3 : (a3.all fun f => decide (f.path.size ≤ 200) && decide (f.text.size ≤ 200)) = true := by rw [List.all_eq_true]; intro f hf; simpa using hp f hf
      rw [hp3, Bool.true_and]
      simp -implicitDefEqProofs only [go_sem]
      repeat' (refine fun (_ : @LE.le Nat _ _ _) => ?_)
      refine snd_list (β := Unit) a5 (fun pre _ => ⟨[(4, .int .i64 pre.length), (1, .ptr 0 0)], [.cells [.int .i64 a1, sl 3 (a2.map encI), sl 39 (a3.map Fl.enc), .str a4, sl 43 (a5.map Rf.enc)]], []⟩) (fun pre _ _ => ∀ r ∈ pre, shortB r = true) () ?_ (by simp) ?_ ?_
      · simp -implicitDefEqProofs only [go_sem]
        rfl
      · intro _ hp
        have hp5 : a5.all shortB = true := by rw [List.all_eq_true]; exact hp
        simp -implicitDefEqProofs only [go_sem, hp5]
      · rintro pre x post _ rfl hp
        have hl2 : ((pre.length : Int) < ((pre ++ x :: post).length : Int)) = True := mid_lt
        simp -implicitDefEqProofs only [go_sem, hl2]
        refine fun _ h2 => (Short x).calls (by simp -implicitDefEqProofs only [go_sem]) ?_
        simp -implicitDefEqProofs only [go_sem]
        refine ⟨fun h => ?_, fun h => ⟨(), ?_, next_ok h2⟩⟩
        · rw [all_no (by simpa using h)]
        · intro s hs
          rcases List.mem_append.1 hs with hs | hs
          · exact hp s hs
          · rw [List.mem_singleton.1 hs]; simpa using h
    · rintro pre x post _ rfl hp
      have hl2 : ((pre.length : Int) < ((pre ++ x :: post).length : Int)) = True := mid_lt
      obtain ⟨x1, x2⟩ := x
      simp -implicitDefEqProofs only [go_sem, hl2]
      refine fun _ h2 _ => ⟨fun h => fun _ => ⟨fun h' => ?_, fun h' => ⟨(), ?_, next_ok h2⟩⟩, fun h => ?_⟩
      · rw [all_no (by simp; omega)]
        rfl
      · intro s hs
        rcases List.mem_append.1 hs with hs | hs
        · exact hp s hs
        · rw [List.mem_singleton.1 hs]; exact ⟨by simp only; omega, by simp only; omega⟩
      · rw [all_no (by simp; omega)]
        rfl
end Go.Proofs.YtnlgaipnpebajaaGreatDoor
namespace Go.Vg
/-- The numbers of a refactoring are numbers. -/
def i64 (n : Int) : Prop := -9223372036854775808 ≤ n ∧ n ≤ 9223372036854775807
structure Rf.rng (r : Rf) : Prop where
  k : i64 r.kind
  n : i64 r.node
  p : i64 r.pos
  o : ∀ n ∈ r.order, i64 n
structure Cm.rng (c : Cm) : Prop where
  i : i64 c.id
  p : ∀ n ∈ c.parents, i64 n
  o : ∀ r ∈ c.ops, r.rng
theorem short_ok {r : Rf} (h : shortB r = true) (hr : r.rng) : r.ok := by
  simp only [shortB, Bool.and_eq_true, Bool.not_eq_true', Bool.or_eq_false_iff, decide_eq_false_iff_not, List.all_eq_true, decide_eq_true_eq] at h
  obtain ⟨⟨⟨⟨⟨⟨⟨⟨⟨h1, h2⟩, h3⟩, h4⟩, h5⟩, h6⟩, h7⟩, h8⟩, h9⟩, h10⟩ := h
  exact ⟨by omega, by omega, by omega, by omega, by omega, hr.n.1, hr.n.2, hr.p.1, hr.p.2, hr.o, by omega, by omega, by omega, fun s hs => by have := h9 s hs; omega, fun s hs => by have := h10 s hs; omega⟩
theorem small_ok {c : Cm} (h : smallB c = true) (hr : c.rng) : c.ok := by
  simp only [smallB, Bool.and_eq_true, Bool.not_eq_true', Bool.or_eq_false_iff, decide_eq_false_iff_not, List.all_eq_true, decide_eq_true_eq] at h
  obtain ⟨⟨⟨⟨⟨h1, h2⟩, h3⟩, h4⟩, h5⟩, h6⟩ := h
  exact ⟨hr.i.1, hr.i.2, hr.p, by omega, by omega, by omega, fun f hf => by have := h5 f hf; omega, by omega, fun r hm => short_ok (h6 r hm) (hr.o r hm)⟩
end Go.Vg
