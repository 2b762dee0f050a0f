/- Commits out of a row's reading. -/
import Derived.Test.YtellnbgljmocgaaGreatDoorTcO
import Derived.Test.YtellnbgljmocgaaGreatDoorVgY
import Derived.ProofKit
import Derived.OpenShut
import Derived.LaidMore
import Derived.Lay
import Derived.MakeChecks
import Derived.SevenTiedAt
import Derived.Stop.Joined
set_option linter.unusedVariables false
set_option linter.unusedSimpArgs false
set_option maxRecDepth 100000
namespace Go.Vg
def tyI : Ty := .int .i64
def tyRf : Ty := .cons 3 tyI (.cons 9 .str (.cons 9 .str (.cons 9 .str (.cons 9 .str (.cons 9 .str (.cons 3 tyI (.cons 3 tyI (.cons 23 (.sl 3 tyI) (.cons 58 (.sl 9 .str) (.cons 58 (.sl 9 .str) .unit))))))))))
def tyFl : Ty := .cons 9 .str (.cons 9 .str .unit)
def tyCm : Ty := .cons 3 tyI (.cons 23 (.sl 3 tyI) (.cons 24 (.sl 34 tyFl) (.cons 9 .str (.cons 25 (.sl 60 tyRf) .unit))))
theorem semI {xs : List V} (h : tyI.sem xs) : ∃ n, i64 n ∧ xs = encI n := by
  obtain ⟨n, rfl, h1, h2⟩ := h
  exact ⟨n, ⟨h1, h2⟩, rfl⟩
theorem semS {xs : List V} (h : Ty.str.sem xs) : ∃ s, xs = encS s := by
  obtain ⟨s, rfl⟩ := h
  exact ⟨s, rfl⟩
theorem sem_list {α : Type} {enc : α → List V} {Q : α → Prop} {S : List V → Prop} (h : ∀ xs, S xs → ∃ a, Q a ∧ xs = enc a) : ∀ es : List (List V), (∀ el ∈ es, S el) → ∃ l : List α, (∀ a ∈ l, Q a) ∧ es = l.map enc
  | [], _ => ⟨[], by simp, rfl⟩
  | e :: es, he => by
    obtain ⟨a, ha, rfl⟩ := h e (he e (by simp))
    obtain ⟨l, hl, rfl⟩ := sem_list h es fun el hel => he el (by simp [hel])
    exact ⟨a :: l, by simpa using ⟨ha, hl⟩, rfl⟩
theorem semIs {xs : List V} (h : (Ty.sl 3 tyI).sem xs) : ∃ l : List Int, (∀ n ∈ l, i64 n) ∧ xs = [sl 3 (l.map encI)] := by
  obtain ⟨es, rfl, h⟩ := h
  obtain ⟨l, hl, rfl⟩ := sem_list (enc := encI) (Q := i64) (fun xs hx => semI hx) es h
  exact ⟨l, hl, rfl⟩
theorem semSs {xs : List V} (h : (Ty.sl 9 .str).sem xs) : ∃ l : List ByteArray, xs = [sl 9 (l.map encS)] := by
  obtain ⟨es, rfl, h⟩ := h
  obtain ⟨l, _, rfl⟩ := sem_list (enc := encS) (Q := fun _ => True) (fun xs hx => (semS hx).imp fun _ h => ⟨trivial, h⟩) es h
  exact ⟨l, rfl⟩
theorem semFl {xs : List V} (h : tyFl.sem xs) : ∃ f : Fl, True ∧ xs = f.enc := by
  obtain ⟨a, b, rfl, ⟨s, rfl⟩, c, d, rfl, ⟨u, rfl⟩, rfl⟩ := h
  exact ⟨⟨s, u⟩, trivial, rfl⟩
theorem semRf {xs : List V} (h : tyRf.sem xs) : ∃ r : Rf, r.rng ∧ xs = r.enc := by
  obtain ⟨_, _, rfl, h1, _, _, rfl, h2, _, _, rfl, h3, _, _, rfl, h4, _, _, rfl, h5, _, _, rfl, h6, _, _, rfl, h7, _, _, rfl, h8, _, _, rfl, h9, _, _, rfl, h10, _, _, rfl, h11, rfl⟩ := h
  obtain ⟨n1, r1, rfl⟩ := semI h1
  obtain ⟨s2, rfl⟩ := h2
  obtain ⟨s3, rfl⟩ := h3
  obtain ⟨s4, rfl⟩ := h4
  obtain ⟨s5, rfl⟩ := h5
  obtain ⟨s6, rfl⟩ := h6
  obtain ⟨n7, r7, rfl⟩ := semI h7
  obtain ⟨n8, r8, rfl⟩ := semI h8
  obtain ⟨l9, r9, rfl⟩ := semIs h9
  obtain ⟨l10, rfl⟩ := semSs h10
  obtain ⟨l11, rfl⟩ := semSs h11
  exact ⟨⟨n1, s2, s3, s4, s5, s6, n7, n8, l9, l10, l11⟩, ⟨r1, r7, r8, r9⟩, rfl⟩
theorem semCm {xs : List V} (h : tyCm.sem xs) : ∃ c : Cm, c.rng ∧ xs = c.enc := by
  obtain ⟨_, _, rfl, h1, _, _, rfl, h2, _, _, rfl, ⟨e3, rfl, h3⟩, _, _, rfl, ⟨s4, rfl⟩, _, _, rfl, ⟨e5, rfl, h5⟩, rfl⟩ := h
  obtain ⟨n1, r1, rfl⟩ := semI h1
  obtain ⟨l2, r2, rfl⟩ := semIs h2
  obtain ⟨l3, _, rfl⟩ := sem_list (enc := Fl.enc) (Q := fun _ => True) (fun xs hx => semFl hx) e3 h3
  obtain ⟨l5, r5, rfl⟩ := sem_list (enc := Rf.enc) (Q := Rf.rng) (fun xs hx => semRf hx) e5 h5
  exact ⟨⟨n1, l2, l3, s4, l5⟩, ⟨r1, r2, r5⟩, rfl⟩
end Go.Vg
