/- The library's functions that the program calls: their contracts on trees. -/
import Derived.Test.YtellnbgljmocgaaGreatDoorTcA
import Derived.Test.YtellnbgljmocgaaGreatDoorVgU
import Derived.Test.YtellnbgljmocgaaGreatDoorShelf
set_option linter.unusedVariables false
set_option linter.unusedSimpArgs false
namespace Go.Proofs.YtellnbgljmocgaaGreatDoor
open Go Go.Vg Go.Proofs Go.Shelf Go.RowKit

theorem L166 : WSL Tryz.prog Tryz.lays156_ren :=
  let L := Tryz.lays156
  let X := Tryz.Builder_Extra_156
  { mixed := L.mixed, f166 := L.f166, e240 := enters_of L.f240 (by kernel_rfl) rfl
    ccU := fun b w h => Any.Builder_copyCheck_used { L with } X.toX72 b w h
    ccF := fun b w h1 h2 h3 => Any.Builder_copyCheck_fresh { L with } X.toX72 b w h1 h2 h3
    t72 := L.t72, a72 := L.a72, z72 := L.z72, v72 := L.v72, t70 := L.t70, a70 := L.a70, z70 := L.z70, v70 := L.v70, t37 := L.t37, a37 := L.a37, z37 := L.z37, v37 := L.v37
    t3 := L.t3, a3 := L.a3, z3 := L.z3, v3 := L.v3, t9 := L.t9, a9 := L.a9, z9 := L.z9, v9 := L.v9 }

/-- A builder is the only one, as the heap is told. -/
def noB : List VObj → Bool
  | [] => true
  | .builder _ _ :: _ => false
  | _ :: r => noB r
@[go_sem] theorem noB_nil : noB [] = true := rfl
@[go_sem] theorem noB_cells {cs : List V} {r : List VObj} : noB (.cells cs :: r) = noB r := rfl
@[go_sem] theorem noB_dead {r : List VObj} : noB (.dead :: r) = noB r := rfl
theorem noB_get : ∀ {h : List VObj}, noB h = true → ∀ (j : Nat) T s, h[j]? ≠ some (.builder T s)
  | [], _, j, T, s => by simp
  | x :: r, h, j, T, s => by
    cases j with
    | zero =>
      intro he
      simp at he
      subst he
      cases h
    | succ j =>
      simp only [List.getElem?_cons_succ]
      cases x
      case builder => cases h
      all_goals exact noB_get (h := r) h j T s

theorem WriteString {E : Env} (hP : E.P = Tryz.prog) (hB : E.byteT = 5) {heap : List VObj} {arr : List Nat} {id : Nat} {s t : ByteArray} {K : Cont} (hh : heap[id]? = some (.builder 64 s)) (hn : noB (heap.set id .dead) = true)
    (hl : s.size + t.size ≤ 140737488355328) (hK : K (.tuple [.int .i64 t.size, .nilif]) (heap.set id (.builder 64 (s ++ t))) arr) :
    VCalls E 24 [.ptr id 0, .str t] heap arr K := by
  obtain ⟨P, gl, tg, bt, i0, i1, d⟩ := E
  cases hP
  refine vWriteString (ρ := Tryz.lays156_ren) L166 Tryz.Builder_Extra_156 hB hh (fun j T' s' hj => ?_) hl hK
  rcases Nat.lt_or_ge id heap.length with hlt | hge
  · refine Classical.byContradiction fun hne => noB_get hn j T' s' ?_
    rw [List.getElem?_set_ne (fun e => hne e.symm)]; exact hj
  · rw [List.getElem?_eq_none hge] at hh; cases hh

theorem BString {E : Env} (hP : E.P = Tryz.prog) (hB : E.byteT = 5) {heap : List VObj} {arr : List Nat} {id : Nat} {s : ByteArray} {K : Cont} (hh : heap[id]? = some (.builder 64 s)) (hs : s.size ≠ 0) (hl : s.size ≤ 140737488355328)
    (hK : K (.str s) (heap.map fun _ => .dead) (arr.map (· + 1))) : VCalls E 28 [.ptr id 0] heap arr K := by
  obtain ⟨P, gl, tg, bt, i0, i1, d⟩ := E
  cases hP
  exact vString (ρ := Tryz.lays169_ren) Tryz.lays169 Tryz.Builder_Extra_169 hB hh hs hl hK

theorem Itoa (n : Int) (h0 : -9223372036854775808 ≤ n) (h1 : n ≤ 9223372036854775807) (hs : (itoaB n).size ≤ 1152921504606846976) : VPure env 25 [.int .i64 n] (.str (itoaB n)) := by
  refine vpure_shelf (val := .string (itoaB n)) rfl rfl (fun G arr => .str _ hs) fun G w0 w vals hr ha => ?_
  obtain ⟨v, vs, rfl, hv, ha⟩ := ha.cons
  rw [ha.nil]
  cases hv
  refine (Tryz.strconv_Itoa n h0 h1 w hr.iniW.1).mono fun e w' ⟨he, k, os, hw⟩ => ⟨he, ?_⟩
  subst hw
  refine ⟨rfl, rfl, rfl, ?_, fun i hi => ?_⟩
  · show w.heap.size ≤ (w.heap ++ os).size
    simp
  · show (w.heap ++ os)[i]? = w.heap[i]?
    rw [Array.getElem?_append_left hi]

theorem Join (xs : List ByteArray) (hl : xs.length ≤ 140737488355328) (hs : (joinB xs).size ≤ 140737488355328) : VPure env 54 [sl 9 (xs.map encS), .str ⟨#[44]⟩] (.str (joinB xs)) := by
  refine vpure_shelf (val := .string (joinB xs)) (by simp -implicitDefEqProofs only [go_sem]) rfl (fun G arr => .str _ (by omega)) fun G w0 w vals hr ha => ?_
  obtain ⟨v, vs, rfl, hv, ha⟩ := ha.cons
  obtain ⟨v2, vs, rfl, hv2, ha⟩ := ha.cons
  rw [ha.nil]
  cases hv2
  rcases texts_of hr cells9 hv with ⟨rfl, a, c, rfl⟩ | ⟨b, o, c, rfl, hb, hc, hcell⟩
  · exact (Tryz.strings_Join_none a c _ w).mono fun e w' ⟨he, hw⟩ => ⟨he, hw ▸ Below.refl _ _⟩
  · exact Tryz.strings_Join b o c xs _ w hcell hb hl hc (by have h := hs; unfold joinB at h; simpa [ByteArray.size] using h)
end Go.Proofs.YtellnbgljmocgaaGreatDoor
