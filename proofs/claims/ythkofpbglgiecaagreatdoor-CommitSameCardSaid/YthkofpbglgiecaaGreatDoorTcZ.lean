/- 'treemergelaw51.CommitSame' returns true for every input, and what it is given reads as before. Conditions: those of the given row alone. -/
import Derived.Test.YthkofpbglgiecaaGreatDoorTcV
import Derived.Test.YthkofpbglgiecaaGreatDoorTcX
set_option linter.unusedVariables false
set_option linter.unusedSimpArgs false
set_option maxRecDepth 100000
namespace Go.Proofs.YthkofpbglgiecaaGreatDoor
open Go.ChangeShapes Go.WideShapes Go.ChangeAt Go.RowKit Go.Vg
theorem lifted (os : Os) (started : os.Started) (H : Type) (enc : TypeId × Value → H) :
    ReturnsInHanded {} Tryz.checked os 3 .any (fun w args => (Rows.commitSameSpec.pre enc Tryz.prog Tryz.f3 Rows.commitSameRow.domain false w args ∧ laidMetH Tryz.prog theLaid w) ∧ sizedMet enc Tryz.prog Tryz.f3 (OpenSpec.ofChange Rows.commitSameSpec) false w args)
      (Rows.commitSameSpec.post enc Tryz.prog Tryz.f3 false true false false) := by
  refine returnsInHanded_both (C := Tryz.checked) (X := fun w _ => laidMetH Tryz.prog theLaid w) (fun _ _ _ hh h => h.of_heap hh) own started (by kernel_rfl) Tryz.func3 (witness os H enc) ?_
  intro W args ds gs before hW hw hL hs
  have hW' := hW
  obtain ⟨p, q, hA0, hV0, rfl, hfz, hnd⟩ := hW
  have hA : DataW.TrodAll enc Tryz.prog W 0 (fun _ => true) true Tryz.f3.params.toList args.toList ds p := hA0
  rw [Tryz.params3] at hA
  obtain ⟨v0, v1, d0, d1, p0, p1, rfl, rfl, rfl, h0, h1⟩ := trodAll_two hA
  obtain ⟨rfl, rfl⟩ := trodVars_none hV0
  have hw : (DataW.weightsEach Tryz.prog (Tryz.f3.params.toList ++ []) ([d0, d1] ++ [])).all (· ≤ reachBytes) = true := hw
  rw [Tryz.params3] at hw
  simp only [List.append_nil, DataW.weightsEach, List.all_append, Bool.and_eq_true] at hw
  obtain ⟨x0, s0, r0⟩ := arg_agg tyCm (by decide) tyCm_ok h0 hw.1
  obtain ⟨x1, s1, r1⟩ := arg_agg tyCm (by decide) tyCm_ok h1 hw.2
  obtain ⟨a, ra, rfl⟩ := semCm s0
  obtain ⟨b, rb, rfl⟩ := semCm s1
  have ha : Args env.P (startG W) [] [.agg a.enc, .agg b.enc] #[v0, v1] := ⟨rfl, fun j x v hx hv => by
    rcases j with _ | _ | j
    · simp at hx hv; subst hx hv; exact r0
    · simp at hx hv; subst hx hv; exact r1
    · simp at hx⟩
  refine (calls_true (CommitSameV a b ra rb) (fun _ => rfl) (ini_of_laid hL hs) ha).mono fun e W' ⟨he, hb⟩ => ?_
  have hlt : ∀ x ∈ p0 ++ p1, x.block < W.heap.size := fun x hx => hW'.lt x (by simpa using hx)
  refine ⟨_, he, _, _, _, [], p0 ++ p1, [], hW', ?_, ?_, rfl, hb.frame _, fun h => by cases h⟩
  · exact trodAll_mk1 (shut_bool Tryz.underlying4 true)
  · exact trodAll_mk2 (Below.trod laidOut (by kernel_rfl) (by decide +kernel) h0 hb fun x hx => hlt x (by simp [hx])) (Below.trod laidOut (by kernel_rfl) (by decide +kernel) h1 hb fun x hx => hlt x (by simp [hx]))
theorem commitSame_row : Rows.CommitSameSaid :=
  OpenClaim.holds_of_wide 3 Tryz.f3 rfl rfl rfl rfl rfl rfl rfl ⟨rfl, rfl, rfl, rfl, rfl⟩ rfl rfl rfl rfl rfl (by kernel_rfl) Tryz.func3 jFacts
    (of_decide_eq_true (by kernel_rfl)) (by unfold Func.isWrapper; rw [if_neg (of_decide_eq_false (by kernel_rfl))]; exact ⟨rfl, rfl⟩)
    (fun os started H enc _ => lifted os started H enc)
end Go.Proofs.YthkofpbglgiecaaGreatDoor
