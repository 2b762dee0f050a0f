/- The program's types, as a row's arguments are read; what the listed variables hold. -/
import Derived.Test.YtamednbojpnalaaGreatDoorVgZa
import Derived.Test.YtamednbojpnalaaGreatDoorToL
import Derived.Test.YtamednbojpnalaaGreatDoorRows
set_option linter.unusedVariables false
set_option maxRecDepth 20000
namespace Go.Proofs.YtamednbojpnalaaGreatDoor
open Go Go.Vg Go.Proofs Go.RowKit
def isNd (xs : List V) : Prop := ∃ n : Nd, xs = n.enc
def tyNd : Tz := .cons 3 (.int .i64) (.cons 9 .str (.cons 29 (.sl 9 .str) (.cons 30 (.sl 32 (.leaf 32 4 isNd)) .unit)))
def tyUn : Tz := .cons 9 .str (.cons 9 .str (.cons 32 (.leaf 32 4 isNd) (.cons 4 .bool .unit)))
def tyPt : Tz := .cons 3 (.int .i64) (.cons 3 (.int .i64) .unit)
def tyShp : Tz := .cons 207 (.sl 209 tyPt) (.cons 209 tyPt (.cons 3 (.int .i64) (.cons 29 (.sl 9 .str) (.cons 3 (.int .i64) .unit))))
def tyShps : Tz := .arr 211 27 tyShp
theorem tyNd_ok : tyNd.ok Tryz.prog (.inl 32) = true := by kernel_rfl
theorem tyUns_ok : (Tz.sl 34 tyUn).ok Tryz.prog (.inl 22) = true := by kernel_rfl
theorem tyShps_ok : tyShps.ok Tryz.prog (.inl 212) = true := by kernel_rfl
theorem list_as {α β : Type} {f : α → β} {es : List β} (h : ∀ el ∈ es, ∃ a, el = f a) : ∃ l : List α, es = l.map f := by
  induction es with
  | nil => exact ⟨[], rfl⟩
  | cons x r ih =>
    obtain ⟨a, rfl⟩ := h x (by simp)
    obtain ⟨l, rfl⟩ := ih fun el hel => h el (by simp [hel])
    exact ⟨a :: l, rfl⟩
section
variable {H : Type} {d : DataW H} {xs : List V}
theorem semStrs {e : TypeId} (h : (Tz.sl e .str).sem d xs) : ∃ g : List ByteArray, xs = [sl e (g.map encS)] := by
  obtain ⟨es, rfl, h1, h2⟩ := h
  obtain ⟨l, rfl⟩ := list_as (f := encS) (es := es) fun el hel => by
    obtain ⟨i, hi, rfl⟩ := List.getElem_of_mem hel
    obtain ⟨s, hs, _⟩ := h2 i _ (List.getElem?_eq_getElem hi)
    exact ⟨s, hs⟩
  exact ⟨l, rfl⟩
theorem semNd (h : tyNd.sem d xs) : isNd xs := by
  obtain ⟨_, _, rfl, ⟨k, rfl, _⟩, _, _, rfl, ⟨t, rfl, _⟩, _, _, rfl, hg, _, _, rfl, ⟨es, rfl, h1, h2⟩, rfl⟩ := h
  obtain ⟨g, rfl⟩ := semStrs hg
  obtain ⟨l, rfl⟩ := list_as (f := Nd.enc) (es := es) fun el hel => by
    obtain ⟨i, hi, rfl⟩ := List.getElem_of_mem hel
    exact h2 i _ (List.getElem?_eq_getElem hi)
  exact ⟨.mk k t g l, by rw [enc_mk]; rfl⟩
theorem semUn (h : tyUn.sem d xs) : ∃ u : Un, xs = u.enc := by
  obtain ⟨_, _, rfl, ⟨p, rfl, _⟩, _, _, rfl, ⟨t, rfl, _⟩, _, _, rfl, ⟨n, rfl⟩, _, _, rfl, ⟨b, rfl, _⟩, rfl⟩ := h
  exact ⟨⟨p, t, n, b⟩, by simp [Un.enc]⟩
end
theorem leafNd {H : Type} {enc : TypeId × Value → H} {w : World} {G : Gh} {held : Bool} (hG : ∀ b o v, w.cell? ⟨b, o, none⟩ = some v → v.oneCell' = true → G.F b o = some v) : ∀ F, LeafR enc Tryz.prog w G held F 32 4 isNd
  | 0 => fun fuel hF => absurd hF (Nat.not_lt_zero _)
  | F + 1 => fun fuel hF cs d ps ht hw => by
    have ih := leafNd (enc := enc) (held := held) hG F
    have hlv : tyNd.lv enc Tryz.prog w G held (F + 1) := ⟨trivial, trivial, trivial, fun f hf => ih f (by omega), trivial⟩
    obtain ⟨xs, h1, h2, h3, h4⟩ := (Tz.read hG tyNd (F + 1) hlv).1 32 fuel cs d ps hF tyNd_ok ht hw
    exact ⟨xs, semNd h1, h2, h3, h4⟩
/-- A list of units as an argument. -/
theorem arg_units {H : Type} {enc : TypeId × Value → H} {W : World} {v : Value} {d : DataW H} {p : List MemPlace} {b : Nat} (ht : Tryz.prog.underlying 22 = some (.slice 34))
    (hval : Value.okWide Tryz.prog W .any b 22 v) (h : DataW.Trod enc Tryz.prog W 0 (fun _ => true) true 22 v d p) (hw : (d.weights Tryz.prog 22).all (· ≤ reachBytes) = true) :
    ∃ u : List Un, RV Tryz.prog (startG W) [] (sl 34 (u.map Un.enc)) v := by
  obtain ⟨es, h1, h2⟩ := arg_slice tyUn (fun F => ⟨trivial, trivial, leafNd startG_F _, trivial, trivial⟩) ht tyUns_ok hval h hw
  obtain ⟨l, rfl⟩ := list_as (f := Un.enc) fun el hel => by
    obtain ⟨di, hdi⟩ := h1 el hel
    exact semUn hdi
  exact ⟨l, h2⟩
theorem shapes_val : tyShps.val Rows.laid_treemerge_grammar_shapes (H := Unit) = shapesC := by kernel_rfl
theorem glob_shapes {W : World} (h : Lib.VarReads Tryz.prog W "treemerge/grammar.shapes" Rows.laid_treemerge_grammar_shapes) : ∀ g cs, env.gl g = some cs → pureL cs = true ∧ RV env.P (startG W) [] (.fptr cs) (.pointer (some ⟨g, 0, none⟩)) := by
  intro g cs hg
  by_cases e : g = 0
  · subst e
    rw [env_shapes] at hg
    cases hg
    refine ⟨by kernel_rfl, ?_⟩
    have := glob_of_reads (g := 0) (t := 212) tyShps rfl (fun G F => ⟨⟨trivial, trivial, trivial⟩, ⟨trivial, trivial, trivial⟩, trivial, trivial, trivial, trivial⟩) tyShps_ok (by kernel_rfl) (by kernel_rfl) (by kernel_rfl) h
    rw [shapes_val] at this
    exact this
  · simp [env, envD, e] at hg
end Go.Proofs.YtamednbojpnalaaGreatDoor
