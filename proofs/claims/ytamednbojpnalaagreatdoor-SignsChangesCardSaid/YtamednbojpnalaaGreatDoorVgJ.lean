/- Code on trees: what is to be shown of a piece of code (vc), and that the machine then does it. -/
import Derived.Test.YtamednbojpnalaaGreatDoorVgG
set_option linter.unusedVariables false
set_option linter.unusedSimpArgs false
namespace Go.Vg
open Go.RowKit

section
variable {E : Env} {G : Gh} {heap : List VObj} {arr : List Nat} {w0 : Base} {w : World}

theorem fieldAddr_out (h : RelW E G heap arr w0 w) {s : TypeId} {x : V} {v : Value} {f : Nat} {K : V → Prop} (hx : RV E.P G arr x v) (hK : vFieldAddr E s x f K) :
    ∃ u z, (Instr.fieldAt s v f).run E.P w = .ok u w ∧ K z ∧ RV E.P G arr z u := by
  unfold vFieldAddr at hK
  split at hK
  case h_2 => exact hK.elim
  rename_i fs hd
  split at hK
  case h_2 => exact hK.elim
  rename_i fd hf
  obtain ⟨⟨h1, h2⟩, hk⟩ := hK
  obtain ⟨i, hi⟩ := Option.isSome_iff_exists.1 h1
  split at hk
  · cases hx with
    | fptr cs b o hdd hr =>
      refine ⟨.pointer (some ⟨b, o + fd.offset, none⟩), _, ?_, hk, .fptr _ _ _ (fun j hj => ?_) fun j c u hc hu => ?_⟩
      · simp only [Instr.fieldAt, Sem.run_bind, run_und hd, Result.andThen_ok, hf, Instr.sureAddr, Sem.run_pure, fieldPlace, run_sizeOf hi, if_neg h2, Addr.add_mk]
      · obtain ⟨u, hu⟩ := hdd (fd.offset + j) (by simp at hj; omega)
        exact ⟨u, by rw [← hu]; congr 1; omega⟩
      · rw [List.getElem?_drop] at hc
        exact hr _ c u hc (by rw [← hu]; congr 1; omega)
  · rename_i id off
    cases hx with
    | ptr _ _ b hb =>
      refine ⟨.pointer (some ⟨b, off + fd.offset, none⟩), _, ?_, hk, .ptr _ _ _ hb⟩
      simp only [Instr.fieldAt, Sem.run_bind, run_und hd, Result.andThen_ok, hf, Instr.sureAddr, Sem.run_pure, fieldPlace, run_sizeOf hi, if_neg h2, Addr.add_mk]
  · rename_i id k gen off
    cases hx with
    | vptr _ _ _ _ b o hv =>
      refine ⟨.pointer (some ⟨b, o + fd.offset, none⟩), _, ?_, hk, .vptr _ _ _ _ _ _ ?_⟩
      · simp only [Instr.fieldAt, Sem.run_bind, run_und hd, Result.andThen_ok, hf, Instr.sureAddr, Sem.run_pure, fieldPlace, run_sizeOf hi, if_neg h2, Addr.add_mk]
      · obtain ⟨n, g1, g2, g3⟩ := hv
        refine ⟨n, g1, g2, fun e => ?_⟩
        obtain ⟨b', hi', g4, g5, g6⟩ := g3 e
        exact ⟨b', hi', g4, g5, by rw [g6]⟩
  · exact hk.elim

theorem indexAddr_out (h : RelW E G heap arr w0 w) {t : TypeId} {x ix : V} {v vi : Value} {K : V → Prop} (hx : RV E.P G arr x v) (hi' : RV E.P G arr ix vi) (hK : vIndexAddr E t x ix K) :
    ∃ u z, (Instr.indexAt t v vi).run E.P w = .ok u w ∧ K z ∧ RV E.P G arr z u := by
  unfold vIndexAddr at hK
  split at hK
  · rename_i e o e' es k i hd
    obtain ⟨⟨rfl, h1, h2, h3⟩, hk⟩ := hK
    obtain ⟨ie, hie⟩ := Option.isSome_iff_exists.1 h1
    have hlt : i.toNat < es.length := by omega
    cases hi'
    cases hx with
    | snil _ _ _ => simp at hlt
    | sodd _ _ _ => simp at hlt
    | slice _ _ _ b off cap ho g1 g2 g3 g4 g5 g6 =>
      refine ⟨.pointer (some ⟨b, off + i.toNat * E.P.cellsOf e', none⟩), _, ?_, hk, .fptr _ _ _ (fun j hj => ?_) fun j c u hc hu => ?_⟩
      · simp only [Instr.indexAt, Sem.run_bind, asIntOf, Sem.run_pure, Result.andThen_ok, run_und hd]
        rw [if_pos ⟨h2, by omega⟩]
        simp only [Sem.run_bind, run_sizeOf hie, Result.andThen_ok, Sem.run_pure, Addr.add_mk]
      · have hel : es[i.toNat]? = some (es.getD i.toNat []) := by simp [List.getD_eq_getElem?_getD, hlt]
        obtain ⟨u, hu⟩ := g5 _ _ j hel hj
        exact ⟨u, by rw [← hu]; congr 1; omega⟩
      · have hel : es[i.toNat]? = some (es.getD i.toNat []) := by simp [List.getD_eq_getElem?_getD, hlt]
        exact g6 _ _ j c u hel hc (by rw [← hu]; congr 1; omega)
  · rename_i e id off len cap e' k i hd
    obtain ⟨⟨rfl, h1, h2, h3⟩, hk⟩ := hK
    obtain ⟨ie, hie⟩ := Option.isSome_iff_exists.1 h1
    cases hi'
    cases hx with
    | mslice _ _ _ _ _ b hb g1 g2 =>
      refine ⟨.pointer (some ⟨b, off + i.toNat * E.P.cellsOf e', none⟩), _, ?_, hk, .ptr _ _ _ hb⟩
      simp only [Instr.indexAt, Sem.run_bind, asIntOf, Sem.run_pure, Result.andThen_ok, run_und hd]
      rw [if_pos ⟨h2, by omega⟩]
      simp only [Sem.run_bind, run_sizeOf hie, Result.andThen_ok, Sem.run_pure, Addr.add_mk]
  · rename_i e id k' gen len e' k i hd
    obtain ⟨⟨rfl, h1, h2, h3⟩, hk⟩ := hK
    obtain ⟨ie, hie⟩ := Option.isSome_iff_exists.1 h1
    cases hi'
    cases hx with
    | vec _ _ _ _ _ b o cap hv g1 g2 =>
      refine ⟨.pointer (some ⟨b, o + i.toNat * E.P.cellsOf e', none⟩), _, ?_, hk, .vptr _ _ _ _ _ _ ?_⟩
      · simp only [Instr.indexAt, Sem.run_bind, asIntOf, Sem.run_pure, Result.andThen_ok, run_und hd]
        rw [if_pos ⟨h2, by omega⟩]
        simp only [Sem.run_bind, run_sizeOf hie, Result.andThen_ok, Sem.run_pure, Addr.add_mk]
      · obtain ⟨n, q1, q2, q3⟩ := hv
        refine ⟨n, q1, q2, fun e => ?_⟩
        obtain ⟨b', hi', q4, q5, q6, q7, q8⟩ := q3 e
        exact ⟨b', hi', q4, q7, by rw [q8, Nat.zero_add]⟩
  · rename_i n e cs k i hd
    obtain ⟨⟨h1, h2, h3⟩, hk⟩ := hK
    obtain ⟨ie, hie⟩ := Option.isSome_iff_exists.1 h1
    cases hi'
    cases hx with
    | fptr _ b o hdd hr =>
      refine ⟨.pointer (some ⟨b, o + i.toNat * E.P.cellsOf e, none⟩), _, ?_, hk, .fptr _ _ _ (fun j hj => ?_) fun j c u hc hu => ?_⟩
      · simp only [Instr.indexAt, Sem.run_bind, asIntOf, Sem.run_pure, Result.andThen_ok, run_und hd, Instr.sureAddr]
        rw [if_pos ⟨h2, by omega⟩]
        simp only [Sem.run_bind, run_sizeOf hie, Result.andThen_ok, Sem.run_pure, Addr.add_mk]
      · obtain ⟨u, hu⟩ := hdd (i.toNat * E.P.cellsOf e + j) (by simp at hj; omega)
        exact ⟨u, by rw [← hu]; congr 1; omega⟩
      · rw [List.getElem?_drop] at hc
        exact hr _ c u hc (by rw [← hu]; congr 1; omega)
  · rename_i n e id off k i hd
    obtain ⟨⟨h1, h2, h3⟩, hk⟩ := hK
    obtain ⟨ie, hie⟩ := Option.isSome_iff_exists.1 h1
    cases hi'
    cases hx with
    | ptr _ _ b hb =>
      refine ⟨.pointer (some ⟨b, off + i.toNat * E.P.cellsOf e, none⟩), _, ?_, hk, .ptr _ _ _ hb⟩
      simp only [Instr.indexAt, Sem.run_bind, asIntOf, Sem.run_pure, Result.andThen_ok, run_und hd, Instr.sureAddr]
      rw [if_pos ⟨h2, by omega⟩]
      simp only [Sem.run_bind, run_sizeOf hie, Result.andThen_ok, Sem.run_pure, Addr.add_mk]
  · exact hK.elim

theorem index_out (h : RelW E G heap arr w0 w) {t : TypeId} {x ix : V} {v vi : Value} {K : V → Prop} (hx : RV E.P G arr x v) (hi' : RV E.P G arr ix vi) (hK : vIndex E t x ix K) :
    ∃ u z, (Instr.index t v vi).run E.P w = .ok u w ∧ K z ∧ RV E.P G arr z u := by
  unfold vIndex at hK
  split at hK
  · rename_i s k i hd
    obtain ⟨⟨h1, h2⟩, hk⟩ := hK
    cases hi'; cases hx
    have hlt : i.toNat < s.size := by omega
    have hget : s[i.toNat]? = some s[i.toNat] := by simp [hlt]
    refine ⟨.int .u8 (byteAt s i), _, ?_, hk, .int _ _⟩
    simp only [Instr.index, Sem.run_bind, asIntOf, Sem.run_pure, Result.andThen_ok, run_und hd, if_pos h1, hget, byteAt]
  · rename_i n e cs k i hd
    obtain ⟨⟨h0, h1, h2⟩, hk⟩ := hK
    obtain ⟨ie, hie⟩ := Option.isSome_iff_exists.1 h0
    cases hi'
    cases hx with
    | agg _ vs hl hr =>
      obtain ⟨u, z, g1, g2, g3⟩ := part_out (w := w) (⟨hl.symm, hr⟩ : RL E.P G arr cs vs) hk
      refine ⟨u, z, ?_, g2, g3⟩
      simp only [Instr.index, Sem.run_bind, asIntOf, Sem.run_pure, Result.andThen_ok, run_und hd]
      rw [if_pos ⟨h1, by omega⟩]
      simp only [Sem.run_bind, run_sizeOf hie, Result.andThen_ok, g1]
  · exact hK.elim

theorem len_out (h : RelW E G heap arr w0 w) {ts : Array TypeId} {t ty : TypeId} {x : V} {v : Value} {K : V → Prop} (h0 : ts[0]? = some t) (hx : RV E.P G arr x v) (hK : vLen E t x K) :
    ∃ u z, (Builtin.len_ ts ty #[v]).run E.P w = .ok u w ∧ K z ∧ RV E.P G arr z u := by
  unfold vLen at hK
  split at hK
  · rename_i s hd
    cases hx with
    | str _ hs => exact ⟨_, _, by simp [Builtin.len_, h0, run_und hd, goInt], hK hs, .int _ _⟩
  · rename_i e o e' es hd
    cases hx with
    | snil _ _ _ => exact ⟨_, _, by simp [Builtin.len_, h0, run_und hd, goInt], hK (by simp) (by simp), .int _ _⟩
    | sodd _ _ _ => exact ⟨_, _, by simp [Builtin.len_, h0, run_und hd, goInt], hK (by simp) (by simp), .int _ _⟩
    | slice _ _ _ b off cap ho g1 g2 g3 g4 g5 g6 => exact ⟨_, _, by simp [Builtin.len_, h0, run_und hd, goInt], hK g2 g3, .int _ _⟩
  · rename_i e id off len cap e' hd
    cases hx with
    | mslice _ _ _ _ _ b hb g1 g2 => exact ⟨_, _, by simp [Builtin.len_, h0, run_und hd, goInt], hK g1, .int _ _⟩
  · rename_i e id k gen len e' hd
    cases hx with
    | vec _ _ _ _ _ b o cap hv g1 g2 => exact ⟨_, _, by simp [Builtin.len_, h0, run_und hd, goInt], hK g1, .int _ _⟩
  · exact hK.elim

def bnd (v : Option Value) (d y : Nat) (code : BoundsCode) : Sem Nat :=
  match v with
  | some v => Instr.sliceBound v y code
  | none => pure d

theorem bound_run {lo : Option V} {vlo : Option Value} {d y : Nat} {l : Int} {code : BoundsCode} (hl : ∀ x, lo = some x → ∃ v, vlo = some v ∧ RV E.P G arr x v) (hn : lo = none → vlo = none)
    (hb : vBound d lo = some l) (h0 : 0 ≤ l) (hy : lo ≠ none → l ≤ y) : (bnd vlo d y code).run E.P w = .ok l.toNat w := by
  cases lo with
  | none =>
    have := hn rfl
    subst this
    simp only [vBound, Option.some.injEq] at hb
    subst hb
    simp [bnd]
  | some x =>
    obtain ⟨v, rfl, hv⟩ := hl x rfl
    cases x <;> simp only [vBound] at hb <;> try cases hb
    cases hv
    simp only [bnd, Instr.sliceBound, Sem.run_bind, asIntOf, Sem.run_pure, Result.andThen_ok]
    rw [if_pos ⟨h0, hy (by simp)⟩]
    rfl

theorem bounds_run {P : Program} {b : Bool} {len cap l h : Nat} {vlo vhi : Option Value} (r1 : (bnd vhi len cap (if b then .sliceAcap else .sliceAlen)).run P w = .ok h w)
    (r2 : (bnd vlo 0 h .sliceB).run P w = .ok l w) : (Instr.sliceBounds b len cap vlo vhi none).run P w = .ok (l, h, cap) w := by
  unfold Instr.sliceBounds
  cases vlo <;> cases vhi <;> simp only [bnd, Sem.run_pure, Result.ok.injEq, and_true] at r1 r2 <;>
    simp only [Sem.run_bind, Sem.run_pure, Result.andThen_ok, Option.isSome_none, Bool.false_eq_true, if_false] <;>
    (try subst r1) <;> (try subst r2) <;> (try rw [r1]) <;> (try simp only [Result.andThen_ok]) <;> (try rw [r2]) <;> rfl

theorem slice_out (h : RelW E G heap arr w0 w) {t : TypeId} {x : V} {v : Value} {lo hi mx : Option V} {vlo vhi vmx : Option Value} {K : V → Prop} (hx : RV E.P G arr x v)
    (hlo : ∀ x, lo = some x → ∃ v, vlo = some v ∧ RV E.P G arr x v) (nlo : lo = none → vlo = none) (hhi : ∀ x, hi = some x → ∃ v, vhi = some v ∧ RV E.P G arr x v) (nhi : hi = none → vhi = none)
    (nmx : mx = none → vmx = none) (hK : vSlice E t x lo hi mx K) : ∃ u z, (Instr.sliceAt t v vlo vhi vmx).run E.P w = .ok u w ∧ K z ∧ RV E.P G arr z u := by
  unfold vSlice at hK
  split at hK
  · rename_i s hd
    split at hK
    case h_2 => exact hK.elim
    rename_i l hh hbl hbh
    obtain ⟨⟨h1, h2, h3⟩, hk⟩ := hK
    rw [nmx rfl]
    cases hx with
    | str _ hs =>
      have r1 := bound_run (w := w) (y := s.size) (code := .sliceAlen) hhi nhi hbh (by omega) (fun _ => by omega)
      have r2 := bound_run (w := w) (y := hh.toNat) (code := .sliceB) hlo nlo hbl (by omega) (fun _ => by omega)
      have hsb : (Instr.sliceBounds false s.size s.size vlo vhi none).run E.P w = .ok (l.toNat, hh.toNat, s.size) w := bounds_run r1 r2
      refine ⟨.string (s.extract l.toNat hh.toNat), _, ?_, hk, .str _ (by simp [ByteArray.size_extract]; omega)⟩
      simp only [Instr.sliceAt, Sem.run_bind, run_und hd, Result.andThen_ok, Instr.slice, Option.isSome_none, Bool.false_eq_true, if_false, Sem.run_pure, hsb]
  · rename_i e o e' es hd
    split at hK
    case h_2 => exact hK.elim
    rename_i l hh hbl hbh
    obtain ⟨⟨he, h0, h1, h2, h3⟩, hk⟩ := hK
    obtain ⟨ie, hie⟩ := Option.isSome_iff_exists.1 h0
    rw [nmx rfl]
    have hx := (elen hx he).2
    have key : ∀ (a : Option Addr) (cap : Nat), v = .slice a es.length cap → es.length ≤ cap →
        (Instr.sliceAt t v vlo vhi none).run E.P w = .ok (.slice (if cap = l.toNat then a else a.map (·.add (l.toNat * E.P.cellsOf e))) (hh.toNat - l.toNat) (cap - l.toNat)) w := by
      rintro a cap rfl hcap
      have r1 := bound_run (w := w) (y := cap) (code := .sliceAcap) hhi nhi hbh (by omega) (fun _ => by omega)
      have r2 := bound_run (w := w) (y := hh.toNat) (code := .sliceB) hlo nlo hbl (by omega) (fun _ => by omega)
      have hsb : (Instr.sliceBounds true es.length cap vlo vhi none).run E.P w = .ok (l.toNat, hh.toNat, cap) w := bounds_run r1 r2
      simp only [Instr.sliceAt, Sem.run_bind, run_und hd, Result.andThen_ok, Instr.slice, hsb, run_sizeOf hie, Sem.run_pure]
    cases hx with
    | snil _ _ ho =>
      simp only [List.length_nil] at h3
      have hl0 : l = 0 := by omega
      have hh0 : hh = 0 := by omega
      subst hl0 hh0
      refine ⟨_, _, key none 0 rfl (Nat.le_refl _), hk, RV.sl (o := .shared) ?_⟩
      exact .snil _ _ trivial
    | sodd _ a c =>
      simp only [List.length_nil] at h3
      have hl0 : l = 0 := by omega
      have hh0 : hh = 0 := by omega
      subst hl0 hh0
      refine ⟨_, _, key a c rfl (Nat.zero_le _), hk, RV.sl (o := .shared) ?_⟩
      exact .sodd _ _ _
    | slice _ _ _ b off cap ho g1 g2 g3 g4 g5 g6 =>
      refine ⟨_, _, key _ cap rfl g4, hk, RV.sl (o := .shared) ?_⟩
      have hlen : ((es.take hh.toNat).drop l.toNat).length = hh.toNat - l.toNat := by simp; omega
      by_cases hc : cap = l.toNat
      · rw [if_pos hc]
        have h00 : (es.take hh.toNat).drop l.toNat = [] := List.eq_nil_of_length_eq_zero (by rw [hlen]; omega)
        rw [h00, show hh.toNat - l.toNat = ([] : List (List V)).length by simp; omega]
        exact .slice _ _ _ _ _ _ trivial (by simp) (by simp) (by simp) (by simp) (by simp) (by simp)
      · rw [if_neg hc]
        simp only [Option.map_some, Addr.add_mk]
        rw [← hlen]
        have hel : ∀ (i : Nat) el, ((es.take hh.toNat).drop l.toNat)[i]? = some el → es[l.toNat + i]? = some el := by
          intro i el hi
          rw [List.getElem?_drop, List.getElem?_take] at hi
          split at hi
          · exact hi
          · cases hi
        refine .slice _ _ _ _ _ _ trivial (fun i el hi => g1 _ el (hel i el hi)) ?_ (by omega) (by omega) (fun i el j hi hj => ?_) fun i el j c u hi hj hu => ?_
        · refine Nat.le_trans (Nat.mul_le_mul_right _ ?_) g2
          omega
        · obtain ⟨u, hu⟩ := g5 _ el j (hel i el hi) hj
          exact ⟨u, by rw [← hu, Nat.add_mul]; congr 1; omega⟩
        · exact g6 _ el j c u (hel i el hi) hj (by rw [← hu, Nat.add_mul]; congr 1; omega)
  · exact hK.elim

end
end Go.Vg
set_option linter.unusedVariables false
set_option linter.unusedSimpArgs false
namespace Go.Vg
open Go.RowKit

section
variable {E : Env} {G : Gh} {s : St} {w0 : Base} {w : World} {n : Nat} {a : Act} {K : Cont}

theorem Lands.here {heap : List VObj} {arr : List Nat} {v : V} {val : Value} (h : RelW E G heap arr w0 w) (hk : K v heap arr) (hr : RV E.P G arr v val) : Lands E G arr w0 K val w :=
  ⟨v, heap, arr, G, hk, Ext.refl _ _, h, hr⟩

theorem parts_rel (h : RelW E G s.heap s.arr w0 w) (ht : RelT E.P G s.arr s.tmps n a) (parts : Array (Nat × Operand)) :
    ((parts.toList.map fun p => (p.1, ev E s.tmps p.2)).length = (parts.map fun (i, x) => (i, a.eval x)).size) ∧
    ∀ (j : Nat) p q, (parts.toList.map fun p => (p.1, ev E s.tmps p.2))[j]? = some p → (parts.map fun (i, x) => (i, a.eval x))[j]? = some q → p.1 = q.1 ∧ RV E.P G s.arr p.2 q.2 := by
  refine ⟨by simp, fun j p q hp hq => ?_⟩
  simp only [List.getElem?_map, Array.getElem?_toList, Array.getElem?_map] at hp hq
  cases hj : parts[j]? with
  | none => simp [hj] at hp
  | some x =>
    simp only [hj, Option.map_some, Option.some.injEq] at hp hq
    subst hp hq
    exact ⟨rfl, RV.ev h ht x.2⟩

theorem args_rel (h : RelW E G s.heap s.arr w0 w) (ht : RelT E.P G s.arr s.tmps n a) (xs : Array Operand) : Args E.P G s.arr (xs.toList.map (ev E s.tmps)) (xs.map a.eval) := by
  refine ⟨by simp, fun j x v hx hv => ?_⟩
  simp only [List.getElem?_map, Array.getElem?_toList, Array.getElem?_map] at hx hv
  cases hj : xs[j]? with
  | none => simp [hj] at hx
  | some y =>
    simp only [hj, Option.map_some, Option.some.injEq] at hx hv
    subst hx hv
    exact RV.ev h ht y

theorem Args.append {P : Program} {G : Gh} {arr : List Nat} {xs ys : List V} {vs us : Array Value} (h : Args P G arr xs vs) (h' : Args P G arr ys us) : Args P G arr (xs ++ ys) (vs ++ us) := by
  refine ⟨by simp [h.1, h'.1], fun j x v hx hv => ?_⟩
  by_cases hj : j < xs.length
  · rw [List.getElem?_append_left hj] at hx
    rw [Array.getElem?_append_left (by rw [← h.1]; exact hj)] at hv
    exact h.2 j x v hx hv
  · rw [List.getElem?_append_right (by omega)] at hx
    rw [Array.getElem?_append_right (by rw [← h.1]; omega), ← h.1] at hv
    exact h'.2 _ x v hx hv

theorem vcall_out {c : Call} {ty : TypeId} (h : RelW E G s.heap s.arr w0 w) (ht : RelT E.P G s.arr s.tmps n a) (hK : vCall E s c K) :
    Out E G s.arr w0 K ((do let d ← resolve a.eval c ty; invoke d.target d.args : Sem Next).run E.P w) := by
  unfold vCall at hK
  split at hK
  · rename_i hc
    split at hK
    case h_2 => exact hK.elim
    rename_i t x ht0 hargs
    obtain ⟨u, z, g1, g2, g3⟩ := len_out (ty := ty) h ht0 (RV.ev h ht x) hK
    have hm : c.args.map a.eval = #[a.eval x] := by
      have : c.args = #[x] := by apply Array.ext'; simpa using hargs
      rw [this]; simp
    simp only [resolve, hc, Sem.run_bind, Sem.run_pure, Result.andThen_ok, invoke, builtin, hm, g1]
    exact Lands.here h g2 g3
  · rename_i hc
    split at hK
    case h_2 => exact hK.elim
    rename_i x y hargs
    have hx := RV.ev h ht x
    have hy := RV.ev h ht y
    have hm : c.args.map a.eval = #[a.eval x, a.eval y] := by
      have : c.args = #[x, y] := by apply Array.ext'; simpa using hargs
      rw [this]; simp
    generalize hvx : a.eval x = vx at hx hm
    generalize hvy : a.eval y = vy at hy hm
    unfold vMin at hK
    split at hK
    case h_2 => exact hK.elim
    rename_i k n1 k2 n2 h1 h2
    rw [h1] at hx
    rw [h2] at hy
    cases hx; cases hy
    simp only [resolve, hc, Sem.run_bind, Sem.run_pure, Result.andThen_ok, invoke, builtin, hm, Builtin.min_, Builtin.min2, List.foldlM]
    exact Lands.here h hK (.int _ _)
  · rename_i hc
    split at hK
    case h_3 => exact hK.elim
    · rename_i x y hargs
      have hx := RV.ev h ht x
      have hy := RV.ev h ht y
      have hm : c.args.map a.eval = #[a.eval x, a.eval y] := by
        have : c.args = #[x, y] := by apply Array.ext'; simpa using hargs
        rw [this]; simp
      generalize hvx : a.eval x = vx at hx hm
      generalize hvy : a.eval y = vy at hy hm
      unfold vMax at hK
      split at hK
      case h_2 => exact hK.elim
      rename_i k n1 k2 n2 h1 h2
      rw [h1] at hx
      rw [h2] at hy
      cases hx; cases hy
      simp only [resolve, hc, Sem.run_bind, Sem.run_pure, Result.andThen_ok, invoke, builtin, hm, Builtin.max_, Builtin.max2, List.foldlM]
      exact Lands.here h hK (.int _ _)
    · rename_i x y z hargs
      have hx := RV.ev h ht x
      have hy := RV.ev h ht y
      have hz := RV.ev h ht z
      have hm : c.args.map a.eval = #[a.eval x, a.eval y, a.eval z] := by
        have : c.args = #[x, y, z] := by apply Array.ext'; simpa using hargs
        rw [this]; simp
      generalize hvx : a.eval x = vx at hx hm
      generalize hvy : a.eval y = vy at hy hm
      generalize hvz : a.eval z = vz at hz hm
      unfold vMax3 at hK
      split at hK
      case h_2 => exact hK.elim
      rename_i k n1 k2 n2 k3 n3 h1 h2 h3
      rw [h1] at hx
      rw [h2] at hy
      rw [h3] at hz
      cases hx; cases hy; cases hz
      simp only [resolve, hc, Sem.run_bind, Sem.run_pure, Result.andThen_ok, invoke, builtin, hm, Builtin.max_, Builtin.max2, List.foldlM]
      exact Lands.here h hK (.int _ _)
  · rename_i hc
    split at hK
    case h_2 => exact hK.elim
    rename_i t t' x y hat hargs
    have hm : c.args.map a.eval = #[a.eval x, a.eval y] := by
      have : c.args = #[x, y] := by apply Array.ext'; simpa using hargs
      rw [this]; simp
    have hm' : c.argTypes = #[t, t'] := by apply Array.ext'; simpa using hat
    unfold vApp at hK
    split at hK
    · obtain ⟨u, z, heap', arr', G', w', g1, g2, g3, g4, g5⟩ := appendV_out (t := ty) h (RV.ev h ht x) (RV.ev h ht y) hK
      simp only [resolve, hc, Sem.run_bind, Sem.run_pure, Result.andThen_ok, invoke, builtin, hm, hm', g1]
      exact ⟨z, _, _, G', g2, g3, g4, g5⟩
    · obtain ⟨u, z, arr', G', w', g1, g2, g3, g4, g5⟩ := append_out (t := ty) h (RV.ev h ht x) (RV.ev h ht y) hK
      simp only [resolve, hc, Sem.run_bind, Sem.run_pure, Result.andThen_ok, invoke, builtin, hm, hm', g1]
      exact ⟨z, _, _, G', g2, g3, g4, g5⟩
  · rename_i hc
    split at hK
    case h_2 => exact hK.elim
    rename_i t t' x y hat hargs
    have hm : c.args.map a.eval = #[a.eval x, a.eval y] := by
      have : c.args = #[x, y] := by apply Array.ext'; simpa using hargs
      rw [this]; simp
    have hm' : c.argTypes = #[t, t'] := by apply Array.ext'; simpa using hat
    obtain ⟨u, z, heap', w', g1, g2, g3, g4⟩ := copy_out (t := ty) h (RV.ev h ht x) (RV.ev h ht y) hK
    simp only [resolve, hc, Sem.run_bind, Sem.run_pure, Result.andThen_ok, invoke, builtin, hm, hm', g1]
    exact ⟨z, _, _, G, g2, Ext.refl _ _, g3, g4⟩
  · rename_i f hc
    split at hK
    case h_2 => exact hK.elim
    rename_i fid caps hf
    obtain ⟨h1, h2⟩ := hK
    have hv := RV.ev h ht f
    rw [hf] at hv
    generalize hev : a.eval f = vf at hv
    cases hv with
    | func _ _ cs hl hr =>
      simp only [resolve, hc, hev, Deferred.ofValue, Sem.run_bind, Sem.run_pure, Result.andThen_ok, invoke, Array.empty_append, callB_spec h1]
      exact h2 G w0 w _ h ((args_rel h ht c.args).append ⟨hl, hr⟩)
  · exact hK.elim

theorem isBZ_of {P : Program} {G : Gh} {arr : List Nat} {c : Array Value} {cs : List V} (h : isBZ cs = true) (h2 : c.size = cs.length) (h3 : ∀ (j : Nat) x, cs[j]? = some x → ∃ v, c[j]? = some v ∧ RV P G arr x v) :
    ∃ p v, c = #[p, v] ∧ p = .pointer none ∧ v = .slice none 0 0 := by
  unfold isBZ at h
  split at h
  · rename_i e
    obtain ⟨p, hp, hrp⟩ := h3 0 _ rfl
    obtain ⟨v, hv, hrv⟩ := h3 1 _ rfl
    refine ⟨p, v, ?_, by cases hrp; rfl, ?_⟩
    · apply Array.ext_getElem?
      intro i
      match i with
      | 0 => simpa using hp
      | 1 => simpa using hv
      | i + 2 => rw [Array.getElem?_eq_none (by rw [h2]; simp), Array.getElem?_eq_none (by simp)]
    · cases hrv with
      | snil => rfl
      | slice _ _ _ _ _ _ ho => exact ho.elim
  · cases h
theorem newO_rel {E : Env} {G : Gh} {arr : List Nat} {w : World} {b : Nat} {t : TypeId} {c : Array Value} {cs : List V} (h0 : newOK E t cs) (h1 : w.heap[b]? = some (.cells c t (0, 0))) (h2 : c.size = cs.length)
    (h3 : ∀ (j : Nat) x, cs[j]? = some x → ∃ v, c[j]? = some v ∧ RV E.P G arr x v) : RObj E.P G arr w b (newO E t cs) := by
  unfold newO
  split
  · rename_i ht
    obtain ⟨p, v, rfl, hp, hv⟩ := isBZ_of (h0 ht) h2 h3
    exact ⟨p, v, h1, .inl hp⟩
  · exact ⟨c, t, h1, h2, h3⟩
theorem newO_bld {E : Env} {G G' : Gh} {arr : List Nat} {w : World} {b : Nat} {t : TypeId} {c : Array Value} {cs : List V} {bt : TypeId} {bs : ByteArray} (h0 : newOK E t cs) (hbs : newO E t cs = .builder bt bs) (h1 : w.heap[b]? = some (.cells c t (0, 0)))
    (h2 : c.size = cs.length) (h3 : ∀ (j : Nat) x v, cs[j]? = some x → c[j]? = some v → RV E.P G arr x v) : Bld E G' w bt bs b := by
  unfold newO at hbs
  split at hbs
  · rename_i ht
    cases hbs
    obtain ⟨p, v, rfl, hp, hv⟩ := isBZ_of (h0 ht) h2 (fun j x hj => by
      have hl : j < c.size := by rw [h2]; exact (List.getElem?_eq_some_iff.1 hj).1
      exact ⟨c[j], Array.getElem?_eq_getElem hl, h3 j x _ hj (Array.getElem?_eq_getElem hl)⟩)
    exact ⟨p, v, h1, .inl ⟨hv, rfl⟩⟩
  · cases hbs

theorem vop_out {o : Oper} (h : RelW E G s.heap s.arr w0 w) (ht : RelT E.P G s.arr s.tmps n a) (hK : vop E s o.op K) : Out E G s.arr w0 K ((execOp a.eval o).run E.P w) := by
  obtain ⟨dst, op, ty, pos, after, guard⟩ := o
  have e : ∀ x, RV E.P G s.arr (ev E s.tmps x) (a.eval x) := RV.ev h ht
  simp only at hK
  cases op <;> simp only [vop] at hK <;> try exact hK.elim
  case move x => exact Lands.here h hK (e x)
  case assign x => exact Lands.here h hK (e x)
  case pick c x y =>
    split at hK
    case h_2 => exact hK.elim
    rename_i t hc
    have hv := e c
    rw [hc] at hv
    generalize hev : a.eval c = vc at hv
    cases hv
    simp only [execOp, hev, asBool, Sem.run_bind, Sem.run_pure, Result.andThen_ok]
    refine Lands.here h hK ?_
    cases t
    · exact e y
    · exact e x
  case alloc t =>
    obtain ⟨⟨h1, h1'⟩, h2⟩ := hK
    obtain ⟨i, z, hi, hz⟩ := zeroOK_spec h1
    have hzl := zeroL_rel (G := G) (arr := s.arr) (E := E) hi hz
    have hrun : (execOp a.eval ⟨dst, .alloc t, ty, pos, after, guard⟩).run E.P w = .ok (.value (.pointer (some ⟨w.heap.size, 0, none⟩))) (w.alloc (.cells z.cells t)) := by
      simp only [execOp, Instr.alloc, Sem.run_bind, run_zeroValue hi hz, Result.andThen_ok, newVar, newRow, newObj, Sem.run, Sem.run_pure]
      rfl
    rw [hrun]
    refine ⟨_, _, _, _, h2, G.ext_newObj _ _, h.allocM _ _ (newO_rel h1' (by rw [heap_alloc, if_pos rfl]) hzl.1 fun j x hj => ?_) (fun bt bs hbs => newO_bld (G' := G.newObj w.heap.size) h1' hbs (by rw [heap_alloc, if_pos rfl]) hzl.1 hzl.2) (by intro _ _ _ _ hh; unfold newO at hh; split at hh <;> cases hh), .ptr _ _ _ ?_⟩
    · have hl : j < z.cells.size := by rw [hzl.1]; exact (List.getElem?_eq_some_iff.1 hj).1
      exact ⟨_, Array.getElem?_eq_getElem hl, hzl.2 j x _ hj (Array.getElem?_eq_getElem hl)⟩
    · simp [Gh.newObj, h.lenφ]
  case box t x =>
    obtain ⟨h1, h2⟩ := hK
    obtain ⟨hl1, hr1⟩ := (e x).cellsV (V.some?_ne h1)
    have hrun : (execOp a.eval ⟨dst, .box t x, ty, pos, after, guard⟩).run E.P w = .ok (.value (.pointer (some ⟨w.heap.size, 0, none⟩))) (w.alloc (.cells (a.eval x).cells t)) := by
      simp only [execOp, Instr.box, Sem.run_bind, Result.andThen_ok, newVar, newRow, newObj, Sem.run, Sem.run_pure]
      rfl
    rw [hrun]
    refine ⟨_, _, _, _, h2, G.ext_newObj _ _, h.allocM _ _ ⟨(a.eval x).cells, t, by rw [heap_alloc, if_pos rfl], hl1.symm, fun j c hj => ?_⟩, .ptr _ _ _ ?_⟩
    · have hl : j < (a.eval x).cells.size := by rw [← hl1]; exact (List.getElem?_eq_some_iff.1 hj).1
      exact ⟨_, Array.getElem?_eq_getElem hl, hr1 j c _ hj (Array.getElem?_eq_getElem hl)⟩
    · simp [Gh.newObj, h.lenφ]
  case build t parts =>
    obtain ⟨hl, hp⟩ := parts_rel h ht parts
    obtain ⟨u, y, g1, g2, g3⟩ := build_out (w := w) hl hp hK
    simp only [execOp, Sem.run_bind, g1, Result.andThen_ok, Sem.run_pure]
    exact Lands.here h g2 g3
  case buildSlice t len parts =>
    obtain ⟨hl, hp⟩ := parts_rel h ht parts
    obtain ⟨u, y, G', w', g1, g2, g3, g4, g5⟩ := buildSlice_out h hl hp hK
    simp only [execOp, Sem.run_bind, g1, Result.andThen_ok, Sem.run_pure]
    exact ⟨y, _, _, G', g2, g3, g4, g5⟩
  case load t x =>
    split at hK
    case h_2 => exact hK.elim
    rename_i cs hat
    obtain ⟨u, y, g1, g2, g3⟩ := load_out h (e x) hat hK
    simp only [execOp, Sem.run_bind, g1, Result.andThen_ok, Sem.run_pure]
    exact Lands.here h g2 g3
  case store t x y =>
    obtain ⟨w', heap', g1, g2, g3⟩ := store_out h (e x) (e y) hK
    simp only [execOp, Sem.run_bind, g1, Result.andThen_ok, Sem.run_pure]
    exact ⟨heap', _, G, g2, Ext.refl _ _, g3⟩
  case nilCheck x =>
    have hv := e x
    generalize hev : a.eval x = vx at hv
    generalize hxx : ev E s.tmps x = x' at hv hK
    split at hK
    · cases hv with
      | ptr _ _ b hb =>
        simp only [execOp, hev, Sem.run_pure]
        exact Lands.here h hK (.ptr _ _ _ hb)
    · cases hv with
      | fptr _ b o' h1 h2 =>
        simp only [execOp, hev, Sem.run_pure]
        exact Lands.here h hK (.fptr _ _ _ h1 h2)
    · cases hv with
      | vptr _ _ _ _ b o hvv =>
        simp only [execOp, hev, Sem.run_pure]
        exact Lands.here h hK (.vptr _ _ _ _ _ _ hvv)
    · exact hK.elim
  case binOp op t x y yt =>
    unfold vBinC at hK
    split at hK
    · rename_i hc
      obtain ⟨u, z, g1, g2, g3⟩ := nil_out (w := w) (ox := x) (oy := y) (e x) hc hK
      have hy : a.eval y = .nilIface := by
        unfold isNilC at hc
        split at hc
        · rfl
        · cases hc
      simp only [execOp, Sem.run_bind, hy] at g1 ⊢
      rw [g1]
      exact Lands.here h g2 g3
    · obtain ⟨u, z, g1, g2, g3⟩ := bin_out (w := w) (ox := x) (oy := y) (e x) (e y) hK
      simp only [execOp, Sem.run_bind] at g1 ⊢
      rw [g1]
      exact Lands.here h g2 g3
  case makeInterface t x =>
    unfold vMkIface at hK
    split at hK
    · exact hK.elim
    · exact hK.elim
    · rename_i h1 h2
      have hm : (Instr.makeInterface t (a.eval x)).run E.P w = .ok (.iface t (a.eval x)) w := by
        cases hd : E.P.underlying t with
        | none => exact absurd hd h2
        | some d =>
          cases d <;> first
            | exact absurd hd (h1 _)
            | simp only [Instr.makeInterface, Sem.run_bind, run_und hd, Result.andThen_ok, Sem.run_pure]
      simp only [execOp, Sem.run_bind, hm, Result.andThen_ok, Sem.run_pure]
      exact Lands.here h hK (.iface _ _ _ (e x))
  case panic x =>
    have hv := e x
    generalize hev : a.eval x = vx at hv
    generalize hxx : ev E s.tmps x = x' at hv hK
    unfold vPanic at hK
    split at hK
    · obtain ⟨t, v, rfl⟩ : ∃ t v, vx = .iface t v := by cases hv; exact ⟨_, _, rfl⟩
      have hp : (Instr.panic (.iface t v)).run E.P w = .halt (.panic (.iface t v)) w := by
        simp [Instr.panic, goPanic, Sem.run]
      simp only [execOp, hev, Sem.run_bind, hp]
      exact ⟨⟨t, v, rfl⟩, _, _, G, hK, Ext.refl _ _, h⟩
    · exact hK.elim
  case unOp op t x =>
    have hv := e x
    generalize hev : a.eval x = vx at hv
    generalize hxx : ev E s.tmps x = x' at hv hK
    unfold vUn at hK
    split at hK
    · cases hv
      simp only [execOp, hev, Op.unary, Op.intArith, Sem.run_bind, Sem.run_pure, Result.andThen_ok]
      exact Lands.here h hK (.int _ _)
    · cases hv
      simp only [execOp, hev, Op.unary, Sem.run_bind, Sem.run_pure, Result.andThen_ok]
      exact Lands.here h hK (.bool _)
    · exact hK.elim
  case convert src dst' x =>
    have hv := e x
    generalize hev : a.eval x = vx at hv
    generalize hxx : ev E s.tmps x = x' at hv hK
    split at hK
    · rename_i d k k' m hs hd
      cases hv
      have : (convert src dst' (.int k' m)).run E.P w = .ok (.int k (k.wrap m)) w := by
        simp only [convert, Sem.run_bind, run_und hs, run_und hd, Result.andThen_ok]
        cases d <;> rfl
      simp only [execOp, hev, Sem.run_bind, this, Result.andThen_ok, Sem.run_pure]
      exact Lands.here h hK (.int _ _)
    · rename_i d b hs hd
      cases hv with
      | str _ hb =>
        have : (convert src dst' (.string b)).run E.P w = .ok (.string b) w := by
          simp only [convert, Sem.run_bind, run_und hs, run_und hd, Result.andThen_ok]
          cases d <;> rfl
        simp only [execOp, hev, Sem.run_bind, this, Result.andThen_ok, Sem.run_pure]
        exact Lands.here h hK (.str _ hb)
    · rename_i e o e' es hs hd
      obtain ⟨⟨h1, h2, h3⟩, hK⟩ := hK
      split at hK
      · rename_i ns hn
        obtain ⟨g1, g2⟩ := bytes_out h (elen hv h1).2 h3 hn
        have : (convert src dst' vx).run E.P w = .ok (.string (strOf ns)) w := by
          cases hv <;> simp only [convert, Sem.run_bind, run_und hs, run_und hd, run_und h2, Result.andThen_ok, g1]
        simp only [execOp, hev, Sem.run_bind, this, Result.andThen_ok, Sem.run_pure]
        exact Lands.here h hK (.str _ g2)
      · exact hK.elim
    · rename_i e b hs hd
      obtain ⟨⟨h1, h2, h3, h4⟩, hK⟩ := hK
      cases hv with
      | str _ hb =>
        obtain ⟨v, w', G', g1, g2, g3, g4⟩ := conv_out h hs hd h1 h2 h3 h4
        simp only [execOp, hev, Sem.run_bind, g1, Result.andThen_ok, Sem.run_pure]
        exact ⟨_, _, _, _, hK, g2, g3, g4⟩
    · exact hK.elim
  case makeFunc fn first caps =>
    split at hK
    · rename_i f
      obtain ⟨h1, h2⟩ := hK
      have hf : first = #[] := by apply Array.ext'; simpa using h1
      simp only [execOp, Instr.makeFunc, hf, Sem.run_bind, Sem.run_pure, Result.andThen_ok, List.map_toArray, List.map_nil]
      obtain ⟨g1, g2⟩ := args_rel h ht caps
      exact Lands.here h h2 (.func _ _ _ g1 g2)
    · exact hK.elim
  case slice t x lo hi mx =>
    obtain ⟨u, z, g1, g2, g3⟩ := slice_out (lo := lo.map (ev E s.tmps)) (hi := hi.map (ev E s.tmps)) (mx := mx.map (ev E s.tmps)) (vlo := lo.map a.eval) (vhi := hi.map a.eval) (vmx := mx.map a.eval) h (e x)
      (fun y hy => by obtain ⟨z, rfl, rfl⟩ := Option.map_eq_some_iff.1 hy; exact ⟨_, rfl, e z⟩) (fun hn => by simpa using hn)
      (fun y hy => by obtain ⟨z, rfl, rfl⟩ := Option.map_eq_some_iff.1 hy; exact ⟨_, rfl, e z⟩) (fun hn => by simpa using hn) (fun hn => by simpa using hn) hK
    simp only [execOp, Sem.run_bind, g1, Result.andThen_ok, Sem.run_pure]
    exact Lands.here h g2 g3
  case fieldAddr t x f =>
    obtain ⟨u, z, g1, g2, g3⟩ := fieldAddr_out h (e x) hK
    simp only [execOp, Sem.run_bind, g1, Result.andThen_ok, Sem.run_pure]
    exact Lands.here h g2 g3
  case field t x f =>
    have hv := e x
    generalize hev : a.eval x = vx at hv
    generalize hxx : ev E s.tmps x = x' at hv hK
    split at hK
    · rename_i fs cs hd
      split at hK
      · rename_i fd hf
        cases hv with
        | agg _ vs hl hr =>
          obtain ⟨u, z, g1, g2, g3⟩ := part_out (w := w) (⟨hl.symm, hr⟩ : RL E.P G s.arr cs vs) hK
          simp only [execOp, hev, Instr.field, Sem.run_bind, run_und hd, Result.andThen_ok, hf, asAgg, Sem.run_pure, g1]
          exact Lands.here h g2 g3
      · exact hK.elim
    · exact hK.elim
  case indexAddr t x ix =>
    obtain ⟨u, z, g1, g2, g3⟩ := indexAddr_out h (e x) (e ix) hK
    simp only [execOp, Sem.run_bind, g1, Result.andThen_ok, Sem.run_pure]
    exact Lands.here h g2 g3
  case index t x ix =>
    obtain ⟨u, z, g1, g2, g3⟩ := index_out h (e x) (e ix) hK
    simp only [execOp, Sem.run_bind, g1, Result.andThen_ok, Sem.run_pure]
    exact Lands.here h g2 g3
  case extract x ix =>
    have hv := e x
    generalize hev : a.eval x = vx at hv
    generalize hxx : ev E s.tmps x = x' at hv hK
    split at hK
    · rename_i vs
      split at hK
      · rename_i y hy
        cases hv with
        | tuple _ us hl hr =>
          have hlt : ix < us.size := by rw [← hl]; exact (List.getElem?_eq_some_iff.1 hy).1
          simp only [execOp, hev, Instr.extract, Array.getElem?_eq_getElem hlt, Sem.run_bind, Sem.run_pure, Result.andThen_ok]
          exact Lands.here h hK (hr ix y _ hy (Array.getElem?_eq_getElem hlt))
      · exact hK.elim
    · exact hK.elim
  case lookup t m k ok =>
    obtain ⟨u, z, g1, g2, g3⟩ := lookK_out h (e m) (e k) hK
    simp only [execOp, Sem.run_bind, g1, Result.andThen_ok, Sem.run_pure]
    exact Lands.here h g2 g3
  case mapUpdate t m k v =>
    obtain ⟨w', heap', g1, g2, g3⟩ := mapSetK_out h (e m) (e k) (e v) hK
    simp only [execOp, Sem.run_bind, g1, Result.andThen_ok, Sem.run_pure]
    exact ⟨heap', _, G, g2, Ext.refl _ _, g3⟩
  case insert t m k v =>
    obtain ⟨w', heap', g1, g2, g3⟩ := mapSetK_out h (e m) (e k) (e v) hK
    simp only [execOp, Sem.run_bind, g1, Result.andThen_ok, Sem.run_pure]
    exact ⟨heap', _, G, g2, Ext.refl _ _, g3⟩
  case makeMap t r =>
    obtain ⟨rfl, hk⟩ := hK
    obtain ⟨g1, g2, g3⟩ := makeMap_out h (t := t)
    simp only [execOp, Sem.run_bind, Option.map_none, g1, Result.andThen_ok, Sem.run_pure]
    exact ⟨_, _, _, _, hk, G.ext_newObj _ _, g2, g3⟩
  case makeSlice t l c =>
    obtain ⟨u, y, heap', G', w', g1, g2, g3, g4, g5⟩ := makeSlice_out h (e l) (e c) hK
    simp only [execOp, Sem.run_bind, g1, Result.andThen_ok, Sem.run_pure]
    exact ⟨_, _, _, _, g2, g3, g4, g5⟩
  case range t x =>
    obtain ⟨u, y, heap', G', w', g1, g2, g3, g4, g5⟩ := range_out h (e x) hK
    simp only [execOp, Sem.run_bind, g1, Result.andThen_ok, Sem.run_pure]
    exact ⟨_, _, _, _, g2, g3, g4, g5⟩
  case next x str =>
    obtain ⟨rfl, hk⟩ := hK
    obtain ⟨u, y, heap', w', g1, g2, g3, g4⟩ := next_out (ty := ty) h (e x) hk
    simp only [execOp, Sem.run_bind, g1, Result.andThen_ok, Sem.run_pure]
    exact ⟨_, _, _, _, g2, Ext.refl _ _, g3, g4⟩
  case call c => exact vcall_out h ht hK

/-- The verdict of an operation's run, as the walk's own. -/
theorem Out.wp {o : Oper} {next : Act → World → Prop} {Q : Exit → Act → World → Prop} (h : Out E G s.arr w0 K ((execOp a.eval o).run E.P w))
    (hd : ∀ ch w', Dies E G s.arr w0 ch w' → Q (.panic ch) a w')
    (hn : ∀ v val heap' arr' G' w', K v heap' arr' → Ext G s.arr G' arr' → RelW E G' heap' arr' w0 w' → RV E.P G' arr' v val → next (a.put o.dst val) w') : o.wp E.P a w next Q := by
  unfold Oper.wp
  generalize (execOp a.eval o).run E.P w = r at h
  cases r with
  | halt x w' =>
    cases x <;> try exact h.elim
    case panic v => exact hd _ _ h
  | ok nx w' =>
    cases nx <;> try exact h.elim
    case value val =>
      obtain ⟨v, heap', arr', G', g1, g2, g3, g4⟩ := h
      exact hn v val heap' arr' G' w' g1 g2 g3 g4
    case skip =>
      obtain ⟨heap', arr', G', g1, g2, g3⟩ := h
      exact hn .junk undef heap' arr' G' w' g1 g2 g3 (.junk _)
    case enter f args =>
      refine Calls.mono h fun e w'' he => ?_
      rcases he with ⟨val, rfl, v, heap', arr', G', g1, g2, g3, g4⟩ | ⟨ch, rfl, hh⟩
      · exact hn v val heap' arr' G' w'' g1 g2 g3 g4
      · exact hd _ _ hh

end
end Go.Vg
set_option linter.unusedVariables false
set_option linter.unusedSimpArgs false
namespace Go.Vg
open Go.RowKit

/-- The slot of operation j. -/
def dstOf (ops : List Oper) (j : Nat) : Option Nat :=
  match ops[j]? with
  | some o => o.dst
  | none => none

def dstB (n : Nat) (o : Oper) : Bool :=
  match o.dst with
  | some d => decide (d < n)
  | none => true

/-- Operations in the order of the text. Behind a guard its slot is known. -/
def vops (E : Env) (n : Nat) (ops : List Oper) : List Oper → St → (St → Prop) → Prop
  | [], s, Q => Q s
  | o :: r, s, Q => dstB n o = true ∧ match o.guard with
    | none => vop E s o.op fun v heap' arr' => vops E n ops r (St.put ⟨s.tmps, heap', arr'⟩ o.dst v) Q
    | some (j, want) => match dstOf ops j with
      | some d => d < n ∧ match look s.tmps d with
        | .bool b => (b = want → vop E ⟨(d, .bool want) :: s.tmps, s.heap, s.arr⟩ o.op fun v heap' arr' => vops E n ops r (St.put ⟨(d, .bool want) :: s.tmps, heap', arr'⟩ o.dst v) Q) ∧
            (b = !want → vops E n ops r (St.put ⟨(d, .bool (!want)) :: s.tmps, s.heap, s.arr⟩ o.dst (.tuple [])) Q)
        | .tuple [] => vops E n ops r (s.put o.dst (.tuple [])) Q
        | _ => False
      | none => False

/-- A state as the machine has it. -/
structure Rel (E : Env) (G : Gh) (s : St) (w0 : Base) (n : Nat) (a : Act) (w : World) : Prop where
  rw : RelW E G s.heap s.arr w0 w
  rt : RelT E.P G s.arr s.tmps n a
  df : a.defers = w0.dfs

theorem Rel.put {E : Env} {G G' : Gh} {s : St} {w0 : Base} {n : Nat} {a : Act} {w' : World} {heap' : List VObj} {arr' : List Nat} {o : Oper} {v : V} {val : Value}
    (ht : RelT E.P G s.arr s.tmps n a) (hdf : a.defers = w0.dfs) (hd : dstB n o = true) (hx : Ext G s.arr G' arr') (hr : RelW E G' heap' arr' w0 w') (hv : RV E.P G' arr' v val) :
    Rel E G' (St.put ⟨s.tmps, heap', arr'⟩ o.dst v) w0 n (a.put o.dst val) w' := by
  unfold dstB at hd
  cases hdst : o.dst with
  | none => exact ⟨hr, ht.mono hx, hdf⟩
  | some d =>
    simp only [hdst, decide_eq_true_eq] at hd
    exact ⟨hr, (ht.mono hx).put hd hv, hdf⟩

theorem wanted_of {E : Env} {G : Gh} {s : St} {n : Nat} {a : Act} {ops : List Oper} {o : Oper} {j d : Nat} {want b : Bool} (ht : RelT E.P G s.arr s.tmps n a) (hg : o.guard = some (j, want))
    (hd : dstOf ops j = some d) (hl : look s.tmps d = .bool b) : Region.wanted o (yielded ops.toArray a.tmps) = (b == want) := by
  have htm := ht.tm d
  rw [hl] at htm
  generalize hv : a.tmps.getD d undef = v at htm
  cases htm
  unfold Region.wanted
  rw [hg]
  simp only
  have hy : yielded ops.toArray a.tmps j = some b := by
    unfold dstOf at hd
    unfold yielded
    cases ho : ops[j]? with
    | none => rw [ho] at hd; cases hd
    | some oj =>
      rw [ho] at hd
      simp only at hd
      rw [Array.getD_eq_getD_getElem?] at hv
      cases htd : a.tmps[d]? with
      | none => rw [htd] at hv; simp [undef] at hv
      | some u =>
        rw [htd] at hv
        simp only [Option.getD_some] at hv
        subst hv
        simp [ho, hd, htd]
  rw [hy]
  simp

theorem RV.undef {P : Program} {G : Gh} {arr : List Nat} : RV P G arr (.tuple []) undef := .tuple [] #[] rfl (by simp)

theorem wanted_undef {E : Env} {G : Gh} {s : St} {n : Nat} {a : Act} {ops : List Oper} {o : Oper} {j d : Nat} {want : Bool} (ht : RelT E.P G s.arr s.tmps n a) (hg : o.guard = some (j, want))
    (hd : dstOf ops j = some d) (hdn : d < n) (hl : look s.tmps d = .tuple []) : Region.wanted o (yielded ops.toArray a.tmps) = false := by
  have htm := ht.tm d
  rw [hl] at htm
  generalize hv : a.tmps.getD d undef = v at htm
  cases htm with
  | tuple _ vs hlen _ =>
    have hvs : vs = #[] := Array.eq_empty_of_size_eq_zero hlen.symm
    subst hvs
    unfold Region.wanted
    rw [hg]
    simp only
    have hy : yielded ops.toArray a.tmps j = none := by
      unfold dstOf at hd
      unfold yielded
      cases ho : ops[j]? with
      | none => rw [ho] at hd; cases hd
      | some oj =>
        rw [ho] at hd
        simp only at hd
        have htd : a.tmps[d]? = some (.tuple #[]) := by
          have hlt : d < a.tmps.size := by rw [ht.sz]; exact hdn
          rw [Array.getElem?_eq_getElem hlt]
          rw [Array.getD_eq_getD_getElem?, Array.getElem?_eq_getElem hlt] at hv
          simpa using hv
        simp [ho, hd, htd]
    rw [hy]
    rfl

theorem RelT.again {P : Program} {G : Gh} {arr : List Nat} {tmps : List (Nat × V)} {n : Nat} {a : Act} {d : Nat} {x : V} (ht : RelT P G arr tmps n a) (hl : look tmps d = x) : RelT P G arr ((d, x) :: tmps) n a := by
  refine ⟨fun i => ?_, ht.sz⟩
  simp only [look]
  split
  · rename_i e; subst e; rw [← hl]; exact ht.tm i
  · exact ht.tm i

theorem Dies.ext {E : Env} {G G' : Gh} {arr arr' : List Nat} {w0 : Base} {ch : List PanicEntry} {w' : World} (h : Dies E G' arr' w0 ch w') (hx : Ext G arr G' arr') : Dies E G arr w0 ch w' := by
  obtain ⟨h1, heap', a', G'', h2, h3, h4⟩ := h
  exact ⟨h1, heap', a', G'', h2, hx.trans h3, h4⟩

theorem vops_sound {E : Env} {n : Nat} {ops : List Oper} {w0 : Base} {QQ : Exit → Act → World → Prop} : ∀ (l : List Oper) (k : Nat) (s : St) (Q : St → Prop) (G : Gh) (a : Act) (w : World),
    (∀ j, l[j]? = ops[k + j]?) → Rel E G s w0 n a w → vops E n ops l s Q → (∀ s' G' a' w', Q s' → Ext G s.arr G' s'.arr → Rel E G' s' w0 n a' w' → QQ .normal a' w') →
    (∀ ch a' w', a'.defers = w0.dfs → Dies E G s.arr w0 ch w' → QQ (.panic ch) a' w') →
    wpOps E.P ops.toArray QQ (List.range' k l.length) a w := by
  intro l
  induction l with
  | nil => intro k s Q G a w _ hr h hq _; exact hq s G a w h (Ext.refl _ _) hr
  | cons o l ih =>
    intro k s Q G a w hl hr h hq hdi
    obtain ⟨hd, hg⟩ := h
    have h0 : ops.toArray[k]? = some o := by have := hl 0; simp at this; simpa using this.symm
    have hl' : ∀ j, l[j]? = ops[k + 1 + j]? := fun j => by have := hl (j + 1); simpa [Nat.add_assoc, Nat.add_comm 1 j] using this
    simp only [List.length_cons, List.range'_succ, wpOps, h0]
    have run : ∀ t : St, t.arr = s.arr → Rel E G t w0 n a w → Region.wanted o (yielded ops.toArray a.tmps) = true →
        (vop E t o.op fun v heap' arr' => vops E n ops l (St.put ⟨t.tmps, heap', arr'⟩ o.dst v) Q) →
        (if Region.wanted o (yielded ops.toArray a.tmps) = true then o.wp E.P a w (wpOps E.P ops.toArray QQ (List.range' (k + 1) l.length)) QQ ∨ (o.asks E.P a w ∧ LetsOut QQ)
          else wpOps E.P ops.toArray QQ (List.range' (k + 1) l.length) (a.put o.dst undef) w) := by
      intro t hta htr hw hrun
      rw [if_pos hw]
      refine .inl ((vop_out htr.rw htr.rt hrun).wp (fun ch w' hh => hdi ch a w' hr.df (by rw [← hta]; exact hh)) fun v val heap' arr' G' w' g1 g2 g3 g4 => ?_)
      exact ih (k + 1) _ Q G' _ w' hl' (Rel.put htr.rt htr.df hd g2 g3 g4) g1 (fun s' G'' a' w'' q1 q2 q3 => hq s' G'' a' w'' q1 (by rw [← hta]; exact g2.trans (by simpa using q2)) q3)
        fun ch a' w'' q1 q2 => hdi ch a' w'' q1 (q2.ext (by rw [← hta]; simpa using g2))
    cases hgu : o.guard with
    | none =>
      rw [hgu] at hg
      exact run s rfl hr (by unfold Region.wanted; rw [hgu]) hg
    | some p =>
      obtain ⟨j, want⟩ := p
      rw [hgu] at hg
      simp only at hg
      split at hg
      case h_2 => exact hg.elim
      rename_i d hdo
      obtain ⟨hdn, hg⟩ := hg
      split at hg
      case h_3 => exact hg.elim
      case h_2 =>
        rename_i hlu
        rw [if_neg (by rw [wanted_undef hr.rt hgu hdo hdn hlu]; simp)]
        exact ih (k + 1) _ Q G _ w hl' (Rel.put (o := o) (v := .tuple []) (val := undef) hr.rt hr.df hd (Ext.refl _ _) hr.rw RV.undef) hg (fun s' G'' a' w'' q1 q2 q3 => hq s' G'' a' w'' q1 (by simpa using q2) q3)
          fun ch a' w'' q1 q2 => hdi ch a' w'' q1 (by simpa using q2)
      rename_i b hlb
      have hwant := wanted_of (ops := ops) hr.rt hgu hdo hlb
      by_cases e : b = want
      · subst e
        exact run ⟨(d, .bool b) :: s.tmps, s.heap, s.arr⟩ rfl ⟨hr.rw, hr.rt.again hlb, hr.df⟩ (by rw [hwant]; simp) (hg.1 rfl)
      · have e' : b = !want := by cases b <;> cases want <;> simp_all
        have hf : Region.wanted o (yielded ops.toArray a.tmps) = false := by rw [hwant]; simpa using e
        rw [if_neg (by simp [hf])]
        have hr' : Rel E G ⟨(d, .bool (!want)) :: s.tmps, s.heap, s.arr⟩ w0 n a w := ⟨hr.rw, hr.rt.again (e' ▸ hlb), hr.df⟩
        refine ih (k + 1) _ Q G _ w hl' (Rel.put (o := o) (v := .tuple []) (val := undef) hr'.rt hr'.df hd (Ext.refl _ _) hr'.rw RV.undef) (hg.2 e') (fun s' G'' a' w'' q1 q2 q3 => hq s' G'' a' w'' q1 (by simpa using q2) q3)
          fun ch a' w'' q1 q2 => hdi ch a' w'' q1 (by simpa using q2)

/-- How a piece of code is left, on trees. -/
inductive VEx where
  | normal | exit (id : Nat) | ret
  deriving DecidableEq

def VEx.real : VEx → Exit
  | .normal => .normal
  | .exit id => .exit id
  | .ret => .ret

/-- What a function found when it was entered: the world's base, the ghost, the slots. -/
structure Fn0 where
  w0 : Base
  G : Gh
  arr : List Nat

/-- The machine's condition that stands for one on trees. -/
def Mean1 (E : Env) (n : Nat) (B : Fn0) (Q : VEx → St → Prop) (e : Exit) (a : Act) (w : World) : Prop :=
  ∃ ve s' G', e = ve.real ∧ Q ve s' ∧ Ext B.G B.arr G' s'.arr ∧ Rel E G' s' B.w0 n a w
def Mean2 (E : Env) (B : Fn0) (e : Exit) (a : Act) (w : World) : Prop :=
  ∃ ch, e = .panic ch ∧ a.defers = B.w0.dfs ∧ Dies E B.G B.arr B.w0 ch w
def Mean (E : Env) (n : Nat) (B : Fn0) (Q : VEx → St → Prop) : Exit → Act → World → Prop :=
  fun e a w => Mean1 E n B Q e a w ∨ Mean2 E B e a w

/-- Run from a state like s, the code ends in a way and a state that Q lets. hb, ab: how many objects and slots there were at the function's begin. -/
def Snd (E : Env) (hb ab n : Nat) (c : Code) (s : St) (Q : VEx → St → Prop) : Prop :=
  ∀ (B : Fn0) (G : Gh) (a : Act) (w : World), B.G.φ.length = hb → B.arr.length = ab → Ext B.G B.arr G s.arr → Rel E G s B.w0 n a w → c.wp E.P (Mean E n B Q) a w

/-- A loop under an invariant with a number that falls, the machine's state being related to a state of trees. -/
theorem wp_loop_ix {P : Program} {c : Code} {Q : Exit → Act → World → Prop} (I : Nat → Act → World → Prop)
    (round : ∀ m a w, I m a w → c.wp P (Exit.then (fun a' w' => ∃ m', m' < m ∧ I m' a' w') Q) a w) : ∀ m a w, I m a w → (Code.loop c).wp P Q a w := by
  intro m a w h₀ b k cs
  have key : ∀ m a w, I m a w → ∃ e a' w', Q e a' w' ∧ Arrives P (lone (b.at a (.code c :: .inLoop c :: k)) cs w) b k cs e a' w' := by
    intro m
    induction m using Nat.strongRecOn with
    | _ m ih =>
      intro a w hI
      obtain ⟨e, a₁, w₁, hq, harr⟩ := round m a w hI b (.inLoop c :: k) cs
      cases e with
      | normal =>
        obtain ⟨m', hlt, hI₁⟩ := hq
        obtain ⟨e₂, a₂, w₂, hq₂, harr₂⟩ := ih m' hlt a₁ w₁ hI₁
        exact ⟨e₂, a₂, w₂, hq₂, .of_steps (Steps.trans harr (.one step_inLoop)) harr₂⟩
      | exit id => exact ⟨_, a₁, w₁, hq, .pass (x := .inLoop c) rfl (fun _ _ => .inl (by simp)) harr⟩
      | goto l => exact ⟨_, a₁, w₁, hq, .pass (x := .inLoop c) rfl (fun _ _ => .inl (by simp)) harr⟩
      | ret => exact ⟨_, a₁, w₁, hq, .pass (x := .inLoop c) rfl (fun _ _ => .inl (by simp)) harr⟩
      | panic ch => exact ⟨_, a₁, w₁, hq, .pass (x := .inLoop c) rfl (fun _ _ => .inl (by simp)) harr⟩
      | outgrown => exact ⟨_, a₁, w₁, hq, .pass (x := .inLoop c) rfl (fun _ _ => .inl (by simp)) harr⟩
  obtain ⟨e, a', w', hq, harr⟩ := key m a w h₀
  exact ⟨e, a', w', hq, .of_steps (.one step_loop) harr⟩

theorem Mean.mono {E : Env} {n : Nat} {B : Fn0} {Q Q' : VEx → St → Prop} (hq : ∀ e s, Q e s → Q' e s) {e : Exit} {a : Act} {w : World}
    (h : Mean E n B Q e a w) : Mean E n B Q' e a w := by
  rcases h with ⟨ve, s', G'', h1, h2, h3, h4⟩ | h
  · exact .inl ⟨ve, s', G'', h1, hq _ _ h2, h3, h4⟩
  · exact .inr h

section rules
variable {E : Env} {hb ab n : Nat} {s : St} {Q : VEx → St → Prop}

theorem Snd.mono {c : Code} {Q' : VEx → St → Prop} (h : Snd E hb ab n c s Q) (hq : ∀ e s, Q e s → Q' e s) : Snd E hb ab n c s Q' :=
  fun B G a w h1 h2 h3 h4 => wp_mono (h B G a w h1 h2 h3 h4) fun _ _ _ hm => hm.mono hq

theorem snd_skip (h : Q .normal s) : Snd E hb ab n .skip s Q := fun B G a w h1 h2 h3 h4 => wp_skip (.inl ⟨.normal, s, G, rfl, h, h3, h4⟩)
theorem snd_label {l : Nat} (h : Q .normal s) : Snd E hb ab n (.label l) s Q := fun B G a w h1 h2 h3 h4 => wp_label (.inl ⟨.normal, s, G, rfl, h, h3, h4⟩)
theorem snd_exit {id : Nat} (h : Q (.exit id) s) : Snd E hb ab n (.exit id) s Q := fun B G a w h1 h2 h3 h4 => wp_exit (.inl ⟨.exit id, s, G, rfl, h, h3, h4⟩)
theorem snd_ret (h : Q .ret s) : Snd E hb ab n .ret s Q := fun B G a w h1 h2 h3 h4 => wp_ret (.inl ⟨.ret, s, G, rfl, h, h3, h4⟩)

/-- A piece, then another: what lies between is M. -/
def thenQ (M : St → Prop) (Q : VEx → St → Prop) : VEx → St → Prop
  | .normal, s => M s
  | e, s => Q e s

theorem snd_seq {x y : Code} (M : St → Prop) (hx : Snd E hb ab n x s (thenQ M Q)) (hy : ∀ s', M s' → Snd E hb ab n y s' Q) : Snd E hb ab n (.seq x y) s Q := by
  intro B G a w h1 h2 h3 h4
  refine wp_seq (wp_mono (hx B G a w h1 h2 h3 h4) fun e a' w' hm => ?_)
  rcases hm with ⟨ve, s', G', rfl, g2, g3, g4⟩ | ⟨ch, rfl, hm⟩
  · cases ve with
    | normal => exact hy s' g2 B G' a' w' h1 h2 g3 g4
    | exit id => exact .inl ⟨.exit id, s', G', rfl, g2, g3, g4⟩
    | ret => exact .inl ⟨.ret, s', G', rfl, g2, g3, g4⟩
  · exact .inr ⟨ch, rfl, hm⟩

theorem snd_cond {c : Operand} {x y : Code} {b : Bool} (hc : ev E s.tmps c = .bool b) (hx : b = true → Snd E hb ab n x s Q) (hy : b = false → Snd E hb ab n y s Q) : Snd E hb ab n (.cond c x y) s Q := by
  intro B G a w h1 h2 h3 h4
  have hv := RV.ev h4.rw h4.rt c
  rw [hc] at hv
  generalize hvc : a.eval c = v at hv
  cases hv
  exact wp_cond_split hvc (fun hb => hx hb B G a w h1 h2 h3 h4) fun hb => hy hb B G a w h1 h2 h3 h4

def blockQ (id : Nat) (Q : VEx → St → Prop) : VEx → St → Prop
  | .exit id', s => if id' = id then Q .normal s else Q (.exit id') s
  | e, s => Q e s

theorem snd_block {id : Nat} {x : Code} (hx : Snd E hb ab n x s (blockQ id Q)) : Snd E hb ab n (.block id x) s Q := by
  intro B G a w h1 h2 h3 h4
  refine wp_block (wp_mono (hx B G a w h1 h2 h3 h4) fun e a' w' hm => ?_)
  rcases hm with ⟨ve, s', G', rfl, g2, g3, g4⟩ | ⟨ch, rfl, hm⟩
  · cases ve with
    | normal => exact .inl ⟨.normal, s', G', rfl, g2, g3, g4⟩
    | exit id' =>
      simp only [VEx.real, Exit.inBlock]
      simp only [blockQ] at g2
      split
      · rename_i e
        rw [if_pos e] at g2
        exact .inl ⟨.normal, s', G', rfl, g2, g3, g4⟩
      · rename_i e
        rw [if_neg e] at g2
        exact .inl ⟨.exit id', s', G', rfl, g2, g3, g4⟩
    | ret => exact .inl ⟨.ret, s', G', rfl, g2, g3, g4⟩
  · exact .inr ⟨ch, rfl, hm⟩

/-- A state may be told in another way. -/
def Weak (E : Env) (hb ab n : Nat) (s t : St) : Prop :=
  ∀ (B : Fn0) (G : Gh) (a : Act) (w : World), B.G.φ.length = hb → B.arr.length = ab → Ext B.G B.arr G s.arr → Rel E G s B.w0 n a w → ∃ G', Ext B.G B.arr G' t.arr ∧ Rel E G' t B.w0 n a w

theorem Weak.refl : Weak E hb ab n s s := fun B G a w _ _ h3 h4 => ⟨G, h3, h4⟩
theorem Weak.trans {t u : St} (h : Weak E hb ab n s t) (h' : Weak E hb ab n t u) : Weak E hb ab n s u := fun B G a w h1 h2 h3 h4 =>
  let ⟨G', g1, g2⟩ := h B G a w h1 h2 h3 h4
  h' B G' a w h1 h2 g1 g2

theorem snd_weak {c : Code} {t : St} (hw : Weak E hb ab n s t) (h : Snd E hb ab n c t Q) : Snd E hb ab n c s Q := fun B G a w h1 h2 h3 h4 =>
  let ⟨G', g1, g2⟩ := hw B G a w h1 h2 h3 h4
  h B G' a w h1 h2 g1 g2

theorem snd_loop {x : Code} (I : Nat → St → Prop) (h0 : ∃ m t, Weak E hb ab n s t ∧ I m t)
    (round : ∀ m t, I m t → Snd E hb ab n x t (thenQ (fun t' => ∃ m' u, m' < m ∧ Weak E hb ab n t' u ∧ I m' u) Q)) : Snd E hb ab n (.loop x) s Q := by
  intro B G a w h1 h2 h3 h4
  obtain ⟨m, t, hw, hI⟩ := h0
  obtain ⟨G0, q1, q2⟩ := hw B G a w h1 h2 h3 h4
  refine wp_loop_ix (fun m a w => ∃ t G', I m t ∧ Ext B.G B.arr G' t.arr ∧ Rel E G' t B.w0 n a w) (fun m a w ⟨t, G', g1, g2, g3⟩ => ?_) m a w ⟨t, G0, hI, q1, q2⟩
  refine wp_mono (round m t g1 B G' a w h1 h2 g2 g3) fun e a' w' hm' => ?_
  rcases hm' with ⟨ve, s', G'', rfl, r2, r3, r4⟩ | ⟨ch, rfl, hm⟩
  · cases ve with
    | normal =>
      obtain ⟨m', u, hlt, hwu, hI⟩ := r2
      obtain ⟨G3, p1, p2⟩ := hwu B G'' a' w' h1 h2 r3 r4
      exact ⟨m', hlt, u, G3, hI, p1, p2⟩
    | exit id => exact .inl ⟨.exit id, s', G'', rfl, r2, r3, r4⟩
    | ret => exact .inl ⟨.ret, s', G'', rfl, r2, r3, r4⟩
  · exact .inr ⟨ch, rfl, hm⟩

theorem snd_region {id : Nat} {ops : Array Oper} (h : vops E n ops.toList ops.toList s (Q .normal)) : Snd E hb ab n (.region id ops false) s Q := by
  intro B G a w h1 h2 h3 h4
  have := vops_sound (QQ := Mean E n B Q) ops.toList 0 s _ G a w (by simp) h4 h (fun s' G' a' w' q1 q2 q3 => .inl ⟨.normal, s', G', rfl, q1, h3.trans q2, q3⟩)
    fun ch a' w' q1 q2 => .inr ⟨ch, rfl, q1, q2.ext h3⟩
  refine wp_region ?_
  simpa [List.range_eq_range'] using this

end rules

/-- The verification condition of code in which loops and regions that draw their order are left as they are. -/
def vc (E : Env) (hb ab n : Nat) : Code → St → (VEx → St → Prop) → Prop
  | .skip, s, Q => Q .normal s
  | .label _, s, Q => Q .normal s
  | .region id ops draw, s, Q => if draw then Snd E hb ab n (.region id ops true) s Q else vops E n ops.toList ops.toList s (Q .normal)
  | .seq x y, s, Q => vc E hb ab n x s (thenQ (fun s' => vc E hb ab n y s' Q) Q)
  | .cond c x y, s, Q => match ev E s.tmps c with
    | .bool b => (b = true → vc E hb ab n x s Q) ∧ (b = false → vc E hb ab n y s Q)
    | _ => False
  | .block id x, s, Q => vc E hb ab n x s (blockQ id Q)
  | .exit id, s, Q => Q (.exit id) s
  | .ret, s, Q => Q .ret s
  | .loop x, s, Q => Snd E hb ab n (.loop x) s Q
  | _, _, _ => False

theorem vc_snd {E : Env} {hb ab n : Nat} : ∀ (c : Code) (s : St) (Q : VEx → St → Prop), vc E hb ab n c s Q → Snd E hb ab n c s Q := by
  intro c
  induction c with
  | skip => intro s Q h; exact snd_skip h
  | label l => intro s Q h; exact snd_label h
  | exit id => intro s Q h; exact snd_exit h
  | ret => intro s Q h; exact snd_ret h
  | region id ops draw =>
    intro s Q h
    cases draw with
    | true => simpa only [vc, if_true] using h
    | false => simp only [vc, Bool.false_eq_true, if_false] at h; exact snd_region h
  | seq x y ihx ihy => intro s Q h; exact snd_seq _ (ihx s _ h) fun s' hm => ihy s' Q hm
  | cond c x y ihx ihy =>
    intro s Q h
    simp only [vc] at h
    generalize hev : ev E s.tmps c = x' at h
    cases x' <;> simp only at h
    case bool b => exact snd_cond hev (fun e => ihx s Q (h.1 e)) fun e => ihy s Q (h.2 e)
    all_goals exact h.elim
  | block id x ih => intro s Q h; exact snd_block (ih s _ h)
  | loop x ih => intro s Q h; exact h
  | rangeFunc f params assign body _ _ => intro s Q h; exact h.elim
  | scope body _ => intro s Q h; exact h.elim
  | goto l => intro s Q h; exact h.elim
  | refuse why => intro s Q h; exact h.elim

/-! ### Functions -/
def enumV : Nat → List V → List (Nat × V)
  | _, [] => []
  | i, x :: r => (i, x) :: enumV (i + 1) r

theorem look_enumV : ∀ (xs : List V) (i j : Nat), look (enumV i xs) j = if i ≤ j then (xs[j - i]?).getD .junk else .junk := by
  intro xs
  induction xs with
  | nil => intro i j; simp [enumV, look]
  | cons x xs ih =>
    intro i j
    simp only [enumV, look]
    by_cases e : j = i
    · subst e; simp
    · rw [if_neg e, ih]
      by_cases h : i + 1 ≤ j
      · rw [if_pos h, if_pos (by omega)]
        have : j - i = (j - (i + 1)) + 1 := by omega
        rw [this]; simp
      · rw [if_neg h, if_neg (by omega)]

theorem RelW.base {E : Env} {G : Gh} {heap : List VObj} {arr : List Nat} {w0 w1 : Base} {w : World} (h1 : w0.w = w1.w) (h2 : w0.F = w1.F) (h : RelW E G heap arr w0 w) : RelW E G heap arr w1 w := by
  obtain ⟨a, b, c⟩ := w0
  obtain ⟨a', b', c'⟩ := w1
  cases h1; cases h2
  exact ⟨h.newF, h.glob, h.below, h.frz, h.one, h.obj, h.lenφ, h.nod, h.sep, h.geφ, h.lenρ, h.reg, h.regd, h.fre, h.bldA (fun _ _ => rfl) (fun _ _ hs => hs), h.ini, h.vs⟩

/-- The results of a function. -/
def vresL (E : Env) (s : St) : List ResultVar → (List V → Prop) → Prop
  | [], K => K []
  | .tmp t :: r, K => vresL E s r fun vs => K (look s.tmps t :: vs)
  | .cell a t :: r, K => match vAt s.heap (look s.tmps a) with
    | some cs => vLoadL E t cs fun v => vresL E s r fun vs => K (v :: vs)
    | none => False

def vres (E : Env) (s : St) (rs : List ResultVar) (K : V → Prop) : Prop :=
  vresL E s rs fun vs => match vs with
    | [v] => K v
    | vs => K (.tuple vs)

theorem vLoadL_mono {E : Env} {t : TypeId} {cs : List V} {K : V → Prop} (h : vLoadL E t cs K) : ∃ v, vLoadL E t cs (fun u => u = v) ∧ K v := by
  unfold vLoadL at h ⊢
  cases hd : E.P.underlying t with
  | none => rw [hd] at h; exact h.elim
  | some d =>
    rw [hd] at h
    cases d <;> simp only [] at h ⊢ <;>
      first
        | exact ⟨_, ⟨h.1, rfl⟩, h.2⟩
        | (cases cs with
           | nil => exact h.elim
           | cons c r => exact ⟨c, rfl, h⟩)

def rget (tmps : Array Value) : ResultVar → Sem Value
  | .tmp t => pure (tmps.getD t undef)
  | .cell b t => do loadVar t (← asAddr (tmps.getD b undef))

theorem results_eq (fn : Func) (tmps : Array Value) : results fn tmps = (do let vs ← fn.results.mapM (rget tmps); pure (if h : vs.size = 1 then vs[0] else .tuple vs)) := by
  unfold results
  congr 1

theorem vresL_run {E : Env} {G : Gh} {s : St} {w0 : Base} {n : Nat} {a : Act} {w : World} (hr : Rel E G s w0 n a w) : ∀ (rs : List ResultVar) (K : List V → Prop), vresL E s rs K →
    ∃ vs us, (rs.mapM (rget a.tmps)).run E.P w = .ok us w ∧ K vs ∧ vs.length = us.length ∧
      ∀ (j : Nat) x v, vs[j]? = some x → us[j]? = some v → RV E.P G s.arr x v := by
  intro rs
  induction rs with
  | nil => intro K h; exact ⟨[], [], rfl, h, rfl, by simp⟩
  | cons r rs ih =>
    intro K h
    cases r with
    | tmp t =>
      obtain ⟨vs, us, g1, g2, g3, g4⟩ := ih _ h
      refine ⟨look s.tmps t :: vs, a.tmps.getD t undef :: us, by simp only [List.mapM_cons, rget, Sem.run_bind, Sem.run_pure, Result.andThen_ok, g1], g2, by simp [g3], fun j x v hx hv => ?_⟩
      cases j with
      | zero =>
        simp only [List.getElem?_cons_zero, Option.some.injEq] at hx hv
        subst hx hv; exact hr.rt.tm t
      | succ j => exact g4 j x v (by simpa using hx) (by simpa using hv)
    | cell b t =>
      simp only [vresL] at h
      split at h
      case h_2 => exact h.elim
      rename_i cs hat
      obtain ⟨y, hy1, hy2⟩ := vLoadL_mono h
      obtain ⟨u, y', q1, q2, q3⟩ := load_out hr.rw (hr.rt.tm b) hat hy1
      subst q2
      obtain ⟨vs, us, g1, g2, g3, g4⟩ := ih _ hy2
      obtain ⟨b', o', hv, _⟩ := read_at hr.rw (hr.rt.tm b) hat
      rw [hv] at q1
      simp only [Instr.loadAt, Instr.sureAddr, Sem.run_bind, Sem.run_pure, Result.andThen_ok] at q1
      refine ⟨y' :: vs, u :: us, by simp only [List.mapM_cons, rget, Sem.run_bind, Sem.run_pure, Result.andThen_ok, hv, asAddr, q1, g1], g2, by simp [g3], fun j x v hx hv => ?_⟩
      cases j with
      | zero => simp at hx hv; subst hx hv; exact q3
      | succ j => exact g4 j x v (by simpa using hx) (by simpa using hv)

theorem results_run {E : Env} {G : Gh} {s : St} {w0 : Base} {n : Nat} {a : Act} {w : World} (hr : Rel E G s w0 n a w) {fn : Func} {K : V → Prop} (h : vres E s fn.results.toList K) :
    ∃ v val, (results fn a.tmps).run E.P w = .ok val w ∧ K v ∧ RV E.P G s.arr v val := by
  obtain ⟨vs, us, g1, g2, g3, g4⟩ := vresL_run hr _ _ h
  have hm : (fn.results.mapM (rget a.tmps)).run E.P w = .ok us.toArray w := by
    rw [Array.mapM_eq_mapM_toList]
    simp only [Sem.run_map, g1, Result.andThen_ok]
  have hall : ∀ v, K v → (vs.length ≠ 1 → v = .tuple vs) → (∀ x, vs = [x] → v = x) → ∃ v val, (results fn a.tmps).run E.P w = .ok val w ∧ K v ∧ RV E.P G s.arr v val := by
    intro v hk h1 h2
    refine ⟨v, if h : us.toArray.size = 1 then us.toArray[0] else .tuple us.toArray, ?_, hk, ?_⟩
    · rw [results_eq]
      simp only [Sem.run_bind, hm, Result.andThen_ok, Sem.run_pure]
    · by_cases hl : vs.length = 1
      · obtain ⟨x, hx⟩ := List.length_eq_one_iff.1 hl
        rw [dif_pos (by simp; omega), h2 x hx]
        exact g4 0 x _ (by rw [hx]; rfl) (by simp)
      · rw [dif_neg (by simp; omega), h1 hl]
        exact .tuple _ _ (by simpa using g3) fun j c u hc hu => g4 j c u hc (by simpa using hu)
  match vs, g2 with
  | [], g2 => exact hall _ g2 (fun _ => rfl) (by simp)
  | [x], g2 => exact hall _ g2 (by simp) (fun y hy => by cases hy; rfl)
  | x :: y :: r, g2 => exact hall _ g2 (fun _ => rfl) (by simp)

/-- A function's contract, out of its body's condition. -/
theorem vcalls_of {E : Env} {f : FuncId} {fn : Func} {c : Code} {args : List V} {heap : List VObj} {arr : List Nat} {K : Cont} (hf : E.P.funcs[f]? = some fn) (hbody : fn.body = some c) (hn : args.length ≤ fn.ntmps)
    (h : Snd E heap.length arr.length fn.ntmps c ⟨enumV 0 args, heap, arr⟩ fun e s => (∀ id, e ≠ .exit id) ∧ vres E s fn.results.toList fun v => K v s.heap s.arr) : VCalls E f args heap arr K := by
  intro G w0 w vals hr ha
  refine calls_of_wp hf hbody (wp_mono (h ⟨{ w0 with dfs := [] }, G, arr⟩ G _ w hr.lenφ rfl (Ext.refl _ _) ⟨hr.base (w0 := w0) (w1 := { w0 with dfs := [] }) rfl rfl, ⟨fun i => ?_, by simp; have := ha.1; omega⟩, rfl⟩) fun e a' w' hm => ?_)
  · rw [look_enumV, if_pos (Nat.zero_le _), Nat.sub_zero]
    cases hi : args[i]? with
    | none => exact .junk _
    | some x =>
      have hlt : i < vals.size := by rw [← ha.1]; exact (List.getElem?_eq_some_iff.1 hi).1
      have : (vals ++ Array.replicate (fn.ntmps - vals.size) undef).getD i undef = vals[i] := by
        rw [Array.getD_eq_getD_getElem?, Array.getElem?_append_left hlt]; simp [hlt]
      show RV _ _ _ _ ((vals ++ Array.replicate (fn.ntmps - vals.size) undef).getD i undef)
      rw [this]
      exact ha.2 i x _ hi (Array.getElem?_eq_getElem hlt)
  · rcases hm with ⟨ve, s', G', rfl, ⟨q1, q2⟩, q3, q4⟩ | ⟨ch, rfl, q1, q2, heap', arr', G', q3, q4, q5⟩
    · obtain ⟨v, val, g1, g2, g3⟩ := results_run q4 q2
      have hres : a'.defers = [] ∧ ∃ v, (results fn a'.tmps).run E.P w' = .ok v w' ∧ Goes E G arr w0 K (Ending.returned v) w' :=
        ⟨q4.df, val, g1, .inl ⟨val, rfl, v, s'.heap, s'.arr, G', g2, q3, q4.rw.base (w0 := { w0 with dfs := [] }) (w1 := w0) rfl rfl, g3⟩⟩
      cases ve with
      | normal => exact hres
      | ret => exact hres
      | exit id => exact absurd rfl (q1 id)
    · exact ⟨q1, .inr ⟨ch, rfl, q2, heap', arr', G', q3, q4, q5.base (w0 := { w0 with dfs := [] }) (w1 := w0) rfl rfl⟩⟩

/-- A pure function's contract. -/
theorem vpure_of {E : Env} {f : FuncId} {fn : Func} {c : Code} {args : List V} {r : V} (hf : E.P.funcs[f]? = some fn) (hbody : fn.body = some c) (hn : args.length ≤ fn.ntmps) (hp : pureL args = true) (hr : r.pure = true)
    (h : Snd E 0 0 fn.ntmps c ⟨enumV 0 args, [], []⟩ fun e s => (∀ id, e ≠ .exit id) ∧ vres E s fn.results.toList fun v => share v = r) (hal : E.alive = E := by exact rfl) : VPure E f args r := by
  refine ⟨hp, hr, ?_⟩
  have := vcalls_of (heap := []) (arr := []) (K := fun v _ _ => share v = r) hf hbody hn h
  rw [← hal] at this
  intro G w0 w vals hrel ha
  refine (this G w0 w vals hrel ha).mono fun e w' hg => ?_
  obtain ⟨val, he, v, heap', arr', G', hv, hx, hr', hrv⟩ := hg.alive
  exact .inl ⟨val, he, share v, heap', arr', G', hv, hx, hr', hrv.share⟩

end Go.Vg
