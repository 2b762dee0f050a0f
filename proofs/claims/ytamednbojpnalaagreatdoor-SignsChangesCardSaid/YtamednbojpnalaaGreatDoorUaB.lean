/- Callables of the program, first declarations of the reference. -/
import Derived.Test.YtamednbojpnalaaGreatDoorUaA
set_option linter.unusedVariables false
set_option linter.unusedSimpArgs false
set_option maxRecDepth 20000
namespace Go.Proofs.YtamednbojpnalaaGreatDoor
open Go Go.Vg Go.Proofs
theorem okD_of (a : List Un) : ∀ d ∈ declsU (a.map Un.sound) 0, okD (a.map Un.sound) d := by
  intro d hd hc
  have hk : d.kind = 1 ∨ d.kind = 4 := by simpa [isC] using hc
  obtain ⟨f1, f4⟩ := decl_facts hd
  have hkind : kindOf d.owner = d.kind := by
    unfold kindOf
    rcases hk with h | h
    · rw [if_pos (f1 h).1, h]
    · rw [if_neg (valid_ne (f4 h).1), h]
  refine ⟨?_, ?_, ?_⟩
  · unfold ownD
    rcases hk with h | h
    · rw [if_neg (by omega), (f1 h).1]
    · rw [if_pos h]
  · unfold sigU
    rw [sounds_fix, hkind]
    unfold ofU findD
    have hs : ((declsU (a.map Un.sound) 0).find? fun e => decide (e.kind = d.kind) && decide (e.owner = d.owner) && decide (e.name = d.name)).isSome = true := by
      rw [List.find?_isSome]
      exact ⟨d, hd, by simp⟩
    obtain ⟨e, he⟩ := Option.isSome_iff_exists.1 hs
    rw [he]
    obtain ⟨un, x, e1, e2, _, _⟩ := declsU_at (a.map Un.sound) 0 e (List.mem_of_find?_eq_some he)
    rw [Option.bind_some, e1, Nat.zero_add, Int.toNat_natCast, e2]
    rfl
  · rcases hk with h | h
    · exact valid_ne (f1 h).2
    · exact valid_ne (f4 h).2
theorem nameD_ne {a : List Un} {d : Dl} (hd : d ∈ declsU (a.map Un.sound) 0) (hc : isC d = true) : nameD d ≠ ⟨#[]⟩ := by
  have hn := (okD_of a d hd hc).2.2
  unfold nameD
  split
  · intro h
    have := congrArg ByteArray.size h
    rw [ByteArray.size_append, ByteArray.size_append] at this
    have e1 : (⟨#[46]⟩ : ByteArray).size = 1 := rfl
    have e2 : (⟨#[]⟩ : ByteArray).size = 0 := rfl
    omega
  · exact hn
/-- What is known of a callable by its name: its declaration without the unit, and the path. -/
def infoC (w : List Un) (n : ByteArray) : Option (Dl × Un) := (declsX w).find? fun p => isC p.1 && decide (nameD p.1 = n)
theorem infoC_find (w : List Un) (n : ByteArray) : (findC n (declsU w 0)).map (fun d => (d.off 0, pathU w d.unit)) = (infoC w n).map fun p => (p.1, p.2.path) := by
  unfold findC infoC
  rw [declsI_U, declsI_X w 0, find_map', find_map']
  have e : ((declsI w 0).find? fun p => isC (p.1.off 0) && decide (nameD (p.1.off 0) = n)) = (declsI w 0).find? fun p => isC p.1 && decide (nameD p.1 = n) := rfl
  rw [e]
  cases hf : (declsI w 0).find? fun p => isC p.1 && decide (nameD p.1 = n) with
  | none => rfl
  | some p =>
    obtain ⟨j, h1, h2⟩ := declsI_get w 0 p (List.mem_of_find?_eq_some hf)
    have : pathU w p.1.unit = p.2.path := by rw [pathU, h1, Nat.zero_add, Int.toNat_natCast, h2]
    show some (p.1.off 0, pathU w p.1.unit) = some (p.1.off 0, p.2.path)
    rw [this]
theorem firstD_findC (w : List Un) {n : ByteArray} (hn : n ≠ ⟨#[]⟩) : firstD w n = findC n (declsU w 0) := by
  unfold firstD findC
  congr 1
  funext d
  rw [decide_eq_false hn]
  simp only [Bool.not_false, Bool.true_and]
  unfold qualD isC nameD
  by_cases h1 : d.kind = 1
  · rw [if_pos h1, if_neg (by omega)]; simp [h1]
  · by_cases h4 : d.kind = 4
    · rw [if_neg h1, if_pos h4, if_pos h4]; simp [h4]
    · rw [if_neg h1, if_neg h4]
      simp only [h1, h4, decide_false, Bool.or_self, Bool.false_and]
      exact decide_eq_false (Ne.symm hn)
/-- The program's list and the reference's name the same declaration. -/
theorem cross {a : List Un} (n : ByteArray) (hn : n ≠ ⟨#[]⟩) : (findC n (declsU (a.map Un.sound) 0)).map (fun d => (d.off 0, pathU (a.map Un.sound) d.unit)) = (firstD (a.filter soundB) n).map fun d => (d.off 0, pathU (a.filter soundB) d.unit) := by
  rw [firstD_findC _ hn, infoC_find, infoC_find]
  unfold infoC
  rw [soundX]
theorem sigD_off {a : List Un} {d e : Dl} (h : d.off 0 = e.off 0) : sigD (a.map Un.sound) d = sigD (a.filter soundB) e := by
  have h1 : (d.off 0).kind = (e.off 0).kind := by rw [h]
  have h2 : (d.off 0).owner = (e.off 0).owner := by rw [h]
  have h3 : (d.off 0).name = (e.off 0).name := by rw [h]
  replace h1 : d.kind = e.kind := h1
  replace h2 : d.owner = e.owner := h2
  replace h3 : d.name = e.name := h3
  unfold sigD ownD
  rw [h1, h2, h3, (both a).1]
end Go.Proofs.YtamednbojpnalaaGreatDoor
