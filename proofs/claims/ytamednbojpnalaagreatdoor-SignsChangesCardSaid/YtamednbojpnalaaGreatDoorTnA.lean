/- What functions of the program compute, as pure functions of their arguments. Conditions: those that each theorem names. -/
import Derived.Test.YtamednbojpnalaaGreatDoorTmN
set_option linter.unusedVariables false
namespace Go.Vg
def sizeT (n : Nd) : Nat := (nodes n).length
theorem nodes_mk {k t g ks} : (nodes (.mk k t g ks)).length = (nodesL ks).length + 1 := by rw [nodes]; rfl
def Nd.zero : Nd := .mk 0 ⟨#[]⟩ [] []
@[go_sem] theorem vCopyD_sl' {E : Env} {heap : List VObj} {K : V → List VObj → Prop} {id off len cap e1 e e2 e' : Nat} {es : List (List V)} (hn : es ≠ []) : vCopyD E heap (some (.slice e)) (some (.slice e2)) (.mslice id off len cap e1) (sl e' es) K = vCopyO E heap heap[id]? e id off len e' es K := by
  cases es with
  | nil => exact absurd rfl hn
  | cons => rfl
theorem flat1 {α : Type} (f : α → V) : ∀ l : List α, (l.map fun x => [f x]).flatten = l.map f
  | [] => rfl
  | x :: r => by simp [flat1 f r]
theorem flatS : ∀ l : List ByteArray, (l.map encS).flatten = l.map V.str
  | [] => rfl
  | x :: r => by simp [flatS r, encS]
theorem rep_flat (n : Nat) (c : V) : (List.replicate n [c]).flatten.length = n := by simp
theorem chunkS : ∀ (l : List ByteArray), chunk 1 l.length (l.map V.str) = l.map encS
  | [] => rfl
  | x :: r => by simp [chunk, chunkS r, encS]
theorem over_all {xs ys : List V} (h : xs.length = ys.length) : over xs 0 ys = ys := by
  apply List.ext_getElem?
  intro j
  rw [over_get _ _ _ (by omega)]
  by_cases hj : j < ys.length
  · rw [if_pos (by omega)]; rfl
  · rw [if_neg (by omega), List.getElem?_eq_none (by omega), List.getElem?_eq_none (by omega)]
theorem chunk1 : ∀ (l : List V), chunk 1 l.length l = l.map fun x => [x]
  | [] => rfl
  | x :: r => by simp [chunk, chunk1 r]
end Go.Vg
namespace Go.Proofs.YtamednbojpnalaaGreatDoor
open Go Go.Vg Go.Proofs
theorem TSize : (n : Nd) → (nodes n).length ≤ 1000000 → VPure env 144 [.agg n.enc] (.int .i64 (nodes n).length) := by
  refine Nd.all fun k t g ks ih hs => ?_
  refine vpure_vc (fn := Tryz.f144) Tryz.func144 rfl (by rw [Tryz.ntmps144]; simp) (by simp -implicitDefEqProofs only [go_sem]) rfl ?_
  simp -implicitDefEqProofs only [go_sem, Tryz.f144]
  intro _ hl
  rw [nodes_mk] at hs ⊢
  refine snd_list (β := Unit) ks (fun pre _ => ⟨[(9, .int .i64 pre.length), (8, .int .i64 ks.length), (7, sl 32 (ks.map Nd.enc)), (3, .int .i64 ((nodesL pre).length + 1 : Nat))], [.dead], []⟩) (fun _ _ _ => True) () ?_ trivial ?_ ?_
  · simp -implicitDefEqProofs only [go_sem]
    exact ⟨rfl, rfl⟩
  · intro _ _
    simp -implicitDefEqProofs only [go_sem]
  · rintro pre x post _ rfl _
    have hp := mid_len hl
    have hsz : (nodesL (pre ++ x :: post)).length = (nodesL pre).length + (nodes x).length + (nodesL post).length := by
      rw [nodesL_app, nodesL]; simp; omega
    simp -implicitDefEqProofs only [go_sem]
    refine (ih x mem_mid (by omega)).calls (by simp -implicitDefEqProofs only [go_sem]) ?_
    simp -implicitDefEqProofs only [go_sem]
    refine ⟨(), wrap_next (by omega), ?_⟩
    rw [nodesL_snoc, List.length_append, wrap_small (by omega) (by omega)]
    omega
theorem Ttexts (l : List ByteArray) : VPure env 96 [sl 9 (l.map encS)] (sl 9 (l.map encS)) := by
  refine vpure_vcF (fn := Tryz.f96) Tryz.func96 rfl (by rw [Tryz.ntmps96]; simp) (by simp -implicitDefEqProofs only [go_sem]) (by simp -implicitDefEqProofs only [go_sem]) ?_
  simp -implicitDefEqProofs only [go_sem, Tryz.f96]
  intro hb hl
  refine ⟨fun h0 => ?_, fun h0 _ _ => ?_⟩
  · have : l = [] := List.eq_nil_of_length_eq_zero (by omega)
    subst this; rfl
  · have hn : l.map encS ≠ [] := by
      intro h; apply h0; simp at h; simp [h]
    refine ⟨hb, ?_⟩
    rw [vCopyD_sl' hn]
    simp -implicitDefEqProofs only [go_sem]
    rw [flatS, Nat.zero_add, List.drop_eq_nil_of_le (by simp), List.append_nil]
    refine ⟨by simp, by simp [V.cell], by simp, by rw [chunkS]⟩
theorem Tclone : (n : Nd) → VPure env 199 [.agg n.enc] (.agg n.enc) := by
  refine Nd.all fun k t g ks ih => ?_
  refine vpure_vc (fn := Tryz.f199) Tryz.func199 rfl (by rw [Tryz.ntmps199]; simp) (by simp -implicitDefEqProofs only [go_sem]) (by simp -implicitDefEqProofs only [go_sem]) ?_
  simp -implicitDefEqProofs only [go_sem, Tryz.f199]
  refine snd_draw (cs := []) mixed (by kernel_rfl) ?_
  simp -implicitDefEqProofs only [go_sem]
  refine vPC_of (Ttexts g) (by simp -implicitDefEqProofs only [go_sem]) ?_
  simp -implicitDefEqProofs only [go_sem]
  intro hb hl
  refine snd_list (β := Unit) ks (fun pre _ => ⟨[(17, .int .i64 pre.length), (16, .int .i64 ks.length), (15, sl 32 (ks.map Nd.enc)), (3, .ptr 2 0), (2, .ptr 1 0)],
      [.dead, .cells [.int .i64 0, .str ⟨#[]⟩, .slice .nil 0 [], .slice .nil 0 []], .cells [.int .i64 k, .str t, sl 9 (g.map encS), .slice (.arr 0) 32 (pre.map Nd.enc)]], [pre.length]⟩)
    (fun _ _ _ => True) () ?_ trivial ?_ ?_
  · simp -implicitDefEqProofs only [go_sem]
    rfl
  · intro _ _
    simp -implicitDefEqProofs only [go_sem]
  · rintro pre x post _ rfl _
    have hp := mid_len hl
    simp -implicitDefEqProofs only [go_sem]
    refine snd_draw (cs := []) mixed (by kernel_rfl) ?_
    simp -implicitDefEqProofs only [go_sem]
    refine vPC_of (ih x mem_mid) (by simp -implicitDefEqProofs only [go_sem]) ?_
    simp -implicitDefEqProofs only [go_sem]
    refine ⟨by simp at hb; omega, (), wrap_next (by omega), ?_⟩
    have e : List.map Nd.enc pre ++ [x.enc] = List.map Nd.enc (pre ++ [x]) := by simp
    exact .inr (by rw [e]; exact ltLL_pure _ _ _ (ncs_pure _))
theorem Tlocate : (n : Nd) → (nodes n).length ≤ 1000000 → ∀ (i : Nat), i ≤ 4000000000000000000 → VPure env 198 [.agg n.enc, .int .i64 i]
    (match (nodes n)[i]? with | some x => .tuple [.agg x.enc, .int .i64 0, .bool true] | none => .tuple [.agg Nd.zero.enc, .int .i64 (nodes n).length, .bool false]) := by
  refine Nd.all fun k t g ks ih hn i hi => ?_
  refine vpure_vc (fn := Tryz.f198) Tryz.func198 rfl (by rw [Tryz.ntmps198]; simp) (by simp -implicitDefEqProofs only [go_sem]) (by split <;> simp -implicitDefEqProofs only [go_sem]) ?_
  simp -implicitDefEqProofs only [go_sem, Tryz.f198]
  have hz : Nd.zero.enc = [.int .i64 0, .str ⟨#[]⟩, .slice .shared 0 [], .slice .shared 0 []] := rfl
  rw [nodes_mk] at hn
  refine ⟨fun h0 => ?_, fun h0 hb hl => ?_⟩
  · have : i = 0 := by omega
    subst this
    simp [nodes, enc_mk]
  refine snd_list (β := Unit) ks (fun pre _ => ⟨[(19, .int .i64 pre.length), (18, .int .i64 ks.length), (17, sl 32 (ks.map Nd.enc)), (7, .int .i64 ((nodesL pre).length + 1 : Nat)), (6, .bool false), (5, .int .i64 0), (4, .ptr 1 0), (1, .int .i64 i)],
      [.dead, .cells [.int .i64 0, .str ⟨#[]⟩, .slice .nil 0 [], .slice .nil 0 []]], []⟩) (fun pre _ _ => (nodesL pre).length < i) () ?_ ?_ ?_ ?_
  · simp -implicitDefEqProofs only [go_sem]
    exact ⟨rfl, rfl⟩
  · show 0 < i
    omega
  · intro _ hlt
    simp -implicitDefEqProofs only [go_sem]
    have : (nodes (.mk k t g ks))[i]? = none := by
      rw [List.getElem?_eq_none]; rw [nodes_mk]; omega
    rw [this, nodes_mk, hz]
  · rintro pre x post _ rfl hlt
    have hp := mid_len hl
    have hsz : (nodesL (pre ++ x :: post)).length = (nodesL pre).length + (nodes x).length + (nodesL post).length := by
      rw [nodesL_app, nodesL]; simp; omega
    simp -implicitDefEqProofs only [go_sem]
    have ew : IntKind.i64.wrap (↑i - ↑((nodesL pre).length + 1)) = ((i - ((nodesL pre).length + 1) : Nat) : Int) := by
      rw [wrap_small (by omega) (by omega)]; omega
    rw [ew]
    have hih := ih x mem_mid (by omega) (i - ((nodesL pre).length + 1)) (by omega)
    cases hq : (nodes x)[i - ((nodesL pre).length + 1)]? with
    | none =>
      rw [hq] at hih
      have hql : (nodes x).length ≤ i - ((nodesL pre).length + 1) := by simpa using hq
      refine hih.calls (by simp -implicitDefEqProofs only [go_sem]) ?_
      simp -implicitDefEqProofs only [go_sem]
      have e : (nodesL (pre ++ [x])).length = (nodesL pre).length + (nodes x).length := by rw [nodesL_snoc, List.length_append]
      refine ⟨(), by omega, wrap_next (by omega), ?_⟩
      rw [e, wrap_small (by omega) (by omega)]
      omega
    | some y =>
      rw [hq] at hih
      have hql := (List.getElem?_eq_some_iff.1 hq).1
      refine hih.calls (by simp -implicitDefEqProofs only [go_sem]) ?_
      simp -implicitDefEqProofs only [go_sem]
      have : (nodes (.mk k t g (pre ++ x :: post)))[i]? = some y := by
        rw [nodes, nodesL_app, nodesL]
        obtain ⟨m, rfl⟩ : ∃ m, i = m + 1 := ⟨i - 1, by omega⟩
        rw [List.getElem?_cons_succ, List.getElem?_append_right (by omega), List.getElem?_append_left (by omega), ← hq]
        congr 1
        omega
      rw [this]
theorem TAt (n : Nd) (hn : (nodes n).length ≤ 1000000) (i : Int) (hi : i ≤ 4000000000000000000) : VPure env 143 [.agg n.enc, .int .i64 i]
    (.tuple [.agg (((if 0 ≤ i then (nodes n)[i.toNat]? else none)).getD Nd.zero).enc, .bool ((if 0 ≤ i then (nodes n)[i.toNat]? else none)).isSome]) := by
  refine vpure_vc (fn := Tryz.f143) Tryz.func143 rfl (by rw [Tryz.ntmps143]; simp) (by simp -implicitDefEqProofs only [go_sem]) (by simp -implicitDefEqProofs only [go_sem]) ?_
  simp -implicitDefEqProofs only [go_sem, Tryz.f143]
  have hz : Nd.zero.enc = [.int .i64 0, .str ⟨#[]⟩, .slice .shared 0 [], .slice .shared 0 []] := rfl
  refine ⟨fun h0 => ?_, fun h0 => ?_⟩
  · rw [if_neg (by omega)]
    rfl
  · rw [if_pos (by omega)]
    have hih := Tlocate n hn i.toNat (by omega)
    rw [show ((i.toNat : Nat) : Int) = i by omega] at hih
    cases hq : (nodes n)[i.toNat]? with
    | none =>
      rw [hq] at hih
      refine hih.calls (by simp -implicitDefEqProofs only [go_sem]) ?_
      simp -implicitDefEqProofs only [go_sem]
      rfl
    | some y =>
      rw [hq] at hih
      refine hih.calls (by simp -implicitDefEqProofs only [go_sem]) ?_
      simp -implicitDefEqProofs only [go_sem]
      refine (Tclone y).calls (by simp -implicitDefEqProofs only [go_sem]) ?_
      simp -implicitDefEqProofs only [go_sem]
      rfl
end Go.Proofs.YtamednbojpnalaaGreatDoor
