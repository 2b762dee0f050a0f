/- Maps whose keys are structs of texts, numbers and truth values. -/
import Derived.Test.YtamednbojpnalaaGreatDoorVgD
import Derived.MapKept
import Derived.Laws.BytesString
import Derived.Lib.ConvBytes
set_option linter.unusedVariables false
set_option linter.unusedSimpArgs false
namespace Go.Vg
open Go.RowKit

def vApp1 (arr : List Nat) (o : Own) (e e1 : TypeId) (es xs : List (List V)) (K : V → List Nat → Prop) : Prop :=
  match o with
  | .shared => False
  | .full => xs ≠ [] ∧ K (.slice (.arr arr.length) e (es ++ xs)) (arr ++ [es.length + xs.length])
  | .nil => es = [] ∧ K (.slice (.arr arr.length) e xs) (arr ++ [xs.length])
  | .arr k => (e1 = e ∧ arr[k]? = some es.length) ∧ K (.slice (.arr k) e (es ++ xs)) (arr.set k (es.length + xs.length))

/-- The bytes of a text, as elements. -/
def bytesV (s : ByteArray) : List (List V) := s.data.toList.map fun b => [.int .u8 b.toNat]

/-- append on trees. The new elements give up their own. -/
def vAppend (E : Env) (arr : List Nat) (sType xType : TypeId) (s x : V) (K : V → List Nat → Prop) : Prop :=
  match E.P.underlying sType, E.P.underlying xType, s, x with
  | some (.slice e), some (.slice _), .slice o e1 es, .slice _ e2 xs =>
    ((es = [] ∨ e1 = e) ∧ (xs = [] ∨ e2 = e) ∧ elemOK E.P e = true ∧ (es.length + xs.length) * E.P.bytesOf e ≤ 140737488355328) ∧ vApp1 arr o e e1 es xs K
  | some (.slice e), some .string, .slice o e1 es, .str b =>
    ((es = [] ∨ e1 = e) ∧ E.P.cellsOf e = 1 ∧ elemOK E.P e = true ∧ (es.length + (bytesV b).length) * E.P.bytesOf e ≤ 140737488355328) ∧ vApp1 arr o e e1 es (bytesV b) K
  | _, _, _, _ => False

theorem size_zeroCells (z : Array Value) (n : Nat) : (Builtin.zeroCells z n).size = n * z.size := by simp [Builtin.zeroCells]

/-- The row of a list, joined. -/
theorem join_get {sz : Nat} {es xs : List (List V)} (h1 : ∀ (i : Nat) el, es[i]? = some el → el.length = sz) {old new : Array Value} (ho : old.size = es.length * sz) (hn : new.size = xs.length * sz)
    {R : V → Value → Prop} (hr1 : ∀ (i : Nat) el (j : Nat) c, es[i]? = some el → el[j]? = some c → ∃ u, old[i * sz + j]? = some u ∧ R c u)
    (hr2 : ∀ (i : Nat) el (j : Nat) c, xs[i]? = some el → el[j]? = some c → ∃ u, new[i * sz + j]? = some u ∧ R c u) :
    ∀ (i : Nat) el (j : Nat) c, (es ++ xs)[i]? = some el → el[j]? = some c → ∃ u, (old ++ new)[i * sz + j]? = some u ∧ R c u := by
  intro i el j c hi hj
  by_cases hil : i < es.length
  · rw [List.getElem?_append_left hil] at hi
    obtain ⟨u, hu, hr⟩ := hr1 i el j c hi hj
    refine ⟨u, ?_, hr⟩
    rw [Array.getElem?_append_left (Array.getElem?_eq_some_iff.1 hu).1]; exact hu
  · rw [List.getElem?_append_right (by omega)] at hi
    obtain ⟨u, hu, hr⟩ := hr2 _ el j c hi hj
    refine ⟨u, ?_, hr⟩
    have hmul : i * sz = es.length * sz + (i - es.length) * sz := by rw [← Nat.add_mul]; congr 1; omega
    rw [Array.getElem?_append_right (by omega), ho]
    rw [show i * sz + j - es.length * sz = (i - es.length) * sz + j by omega]
    exact hu

theorem elen {P : Program} {G : Gh} {arr : List Nat} {o : Own} {e e1 : TypeId} {es : List (List V)} {v : Value} (h : RV P G arr (.slice o e1 es) v) (he : es = [] ∨ e1 = e) :
    (∀ (i : Nat) el, es[i]? = some el → el.length = P.cellsOf e) ∧ RV P G arr (.slice .shared e es) v := by
  rcases he with rfl | rfl
  · refine ⟨by simp, ?_⟩
    cases h with
    | snil => exact .snil _ _ trivial
    | sodd => exact .sodd _ _ _
    | slice _ _ _ b off cap ho h1 h2 h3 h4 h5 h6 =>
      exact .slice .shared e [] b off cap trivial (by simp) (by simp) (by simp) (by simp) (by simp) (by simp)
  · cases h with
    | snil => exact ⟨by simp, .snil _ _ trivial⟩
    | sodd => exact ⟨by simp, .sodd _ _ _⟩
    | slice _ _ _ b off cap ho h1 h2 h3 h4 h5 h6 => exact ⟨h1, .slice _ _ _ _ _ _ trivial h1 h2 h3 h4 h5 h6⟩

/-- A list at block b from off on, out of what the cells hold. -/
theorem RV.ofCells {P : Program} {G : Gh} {arr : List Nat} {o : Own} {e : TypeId} {es : List (List V)} {b off cap : Nat} (ho : OwnOK G arr o b off es.length cap (P.cellsOf e))
    (h1 : ∀ (i : Nat) el, es[i]? = some el → el.length = P.cellsOf e) (h2 : es.length * P.bytesOf e ≤ 140737488355328) (h2' : 1 ≤ P.bytesOf e) (h4 : es.length ≤ cap)
    (h : ∀ (i : Nat) el (j : Nat) c, es[i]? = some el → el[j]? = some c → ∃ u, G.F b (off + (i * P.cellsOf e + j)) = some u ∧ RV P G arr c u) :
    RV P G arr (.slice o e es) (.slice (some ⟨b, off, none⟩) es.length cap) := by
  refine .slice o e es b off cap ho h1 h2 (Nat.le_trans (Nat.le_mul_of_pos_right _ h2') h2) h4 (fun i el j hi hj => ?_) fun i el j c v hi hj hv => ?_
  · obtain ⟨u, hu, _⟩ := h i el j _ hi (List.getElem?_eq_getElem hj)
    exact ⟨u, hu⟩
  · obtain ⟨u, hu, hr⟩ := h i el j c hi hj
    rw [hv] at hu
    cases hu
    exact hr

/-- What a list hands to an append. -/
theorem elems_src {E : Env} {G : Gh} {heap : List VObj} {arr : List Nat} {w0 : Base} {w : World} (h : RelW E G heap arr w0 w) {o : Own} {e e' tx : TypeId} {es : List (List V)} {v : Value}
    (hk : E.P.underlying tx = some (.slice e')) (hv : RV E.P G arr (.slice o e es) v) : ∃ news : List Value, Src E.P (E.P.cellsOf e) tx v es.length news w ∧
      ∀ (i : Nat) el (j : Nat) c, es[i]? = some el → el[j]? = some c → ∃ u, news[i * E.P.cellsOf e + j]? = some u ∧ RV E.P G arr c u := by
  cases hv with
  | snil o e ho => exact ⟨[], Src.ofNil w hk 0, by simp⟩
  | sodd e a c =>
    refine ⟨[], ?_, by simp⟩
    cases a with
    | none => exact Src.ofNil w hk c
    | some a => exact Src.ofSlice w hk a 0 c [] (by simp) (by simp) (by simp)
  | slice o e es b off cap ho h1 h2 h3 h4 h5 h6 =>
    have hF : ∀ j, j < es.length * E.P.cellsOf e → ∃ u, G.F b (off + j) = some u := fun j hj => by
      have hs : 0 < E.P.cellsOf e := Nat.pos_of_ne_zero fun h0 => by simp [h0] at hj
      have hi : j / E.P.cellsOf e < es.length := (Nat.div_lt_iff_lt_mul hs).2 hj
      have hel := h1 _ _ (List.getElem?_eq_getElem hi)
      obtain ⟨u, hu⟩ := h5 _ _ (j % E.P.cellsOf e) (List.getElem?_eq_getElem hi) (by rw [hel]; exact Nat.mod_lt _ hs)
      have : j / E.P.cellsOf e * E.P.cellsOf e + j % E.P.cellsOf e = j := Nat.div_add_mod' j _
      rw [this] at hu
      exact ⟨u, hu⟩
    have hnews : ∀ (j : Nat) u, ((List.range (es.length * E.P.cellsOf e)).map fun j => (G.F b (off + j)).getD undef)[j]? = some u → G.F b (off + j) = some u := by
      intro j u hu
      rw [List.getElem?_map] at hu
      obtain ⟨j', hj', rfl⟩ := Option.map_eq_some_iff.1 hu
      have hjl := (List.getElem?_eq_some_iff.1 hj').1
      rw [List.length_range] at hjl
      rw [List.getElem?_range hjl] at hj'
      cases hj'
      obtain ⟨u, hu⟩ := hF j hjl
      rw [hu]; rfl
    refine ⟨(List.range (es.length * E.P.cellsOf e)).map fun j => (G.F b (off + j)).getD undef, Src.ofSlice w hk ⟨b, off, none⟩ es.length cap _ (by simp) (fun j u hu => ?_) (fun u hu => ?_), fun i el j c hi hj => ?_⟩
    · rw [Addr.add_mk]; exact h.frz _ _ _ (hnews j u hu)
    · obtain ⟨j, hj, rfl⟩ := List.getElem_of_mem hu
      exact h.one _ _ _ (hnews j _ (List.getElem?_eq_getElem hj))
    · have hjl := (List.getElem?_eq_some_iff.1 hj).1
      have hil := (List.getElem?_eq_some_iff.1 hi).1
      have hel := h1 i el hi
      obtain ⟨u, hu⟩ := h5 i el j hi hjl
      have hlt : i * E.P.cellsOf e + j < es.length * E.P.cellsOf e := by
        have : (i + 1) * E.P.cellsOf e ≤ es.length * E.P.cellsOf e := Nat.mul_le_mul_right _ hil
        rw [Nat.add_mul] at this
        omega
      refine ⟨u, ?_, h6 i el j c u hi hj hu⟩
      rw [List.getElem?_map, List.getElem?_range hlt]
      simp [hu]

theorem join_getL {sz : Nat} {es xs : List (List V)} {old new : List Value} (ho : old.length = es.length * sz)
    {R : V → Value → Prop} (hr1 : ∀ (i : Nat) el (j : Nat) c, es[i]? = some el → el[j]? = some c → ∃ u, old[i * sz + j]? = some u ∧ R c u)
    (hr2 : ∀ (i : Nat) el (j : Nat) c, xs[i]? = some el → el[j]? = some c → ∃ u, new[i * sz + j]? = some u ∧ R c u) :
    ∀ (i : Nat) el (j : Nat) c, (es ++ xs)[i]? = some el → el[j]? = some c → ∃ u, (old ++ new)[i * sz + j]? = some u ∧ R c u := by
  intro i el j c hi hj
  by_cases hil : i < es.length
  · rw [List.getElem?_append_left hil] at hi
    obtain ⟨u, hu, hr⟩ := hr1 i el j c hi hj
    refine ⟨u, ?_, hr⟩
    rw [List.getElem?_append_left (List.getElem?_eq_some_iff.1 hu).1]; exact hu
  · rw [List.getElem?_append_right (by omega)] at hi
    obtain ⟨u, hu, hr⟩ := hr2 _ el j c hi hj
    refine ⟨u, ?_, hr⟩
    have hmul : i * sz = es.length * sz + (i - es.length) * sz := by rw [← Nat.add_mul]; congr 1; omega
    rw [List.getElem?_append_right (by omega), ho]
    rw [show i * sz + j - es.length * sz = (i - es.length) * sz + j by omega]
    exact hu

theorem app_len {sz : Nat} {es xs : List (List V)} (h1 : ∀ (i : Nat) el, es[i]? = some el → el.length = sz) (h2 : ∀ (i : Nat) el, xs[i]? = some el → el.length = sz) :
    ∀ (i : Nat) el, (es ++ xs)[i]? = some el → el.length = sz := by
  intro i el hi
  by_cases hil : i < es.length
  · rw [List.getElem?_append_left hil] at hi; exact h1 i el hi
  · rw [List.getElem?_append_right (by omega)] at hi; exact h2 _ el hi

theorem append_core {E : Env} {G : Gh} {heap : List VObj} {arr : List Nat} {w0 : Base} {w : World} (h : RelW E G heap arr w0 w) {vs vx : Value} {t : TypeId} {sT xT : TypeId} {e e1 : TypeId} {o : Own} {es xs : List (List V)}
    {K : V → List Nat → Prop} (hs : RV E.P G arr (.slice o e1 es) vs) (hsT : E.P.underlying sT = some (.slice e)) (he1 : es = [] ∨ e1 = e) (hok : elemOK E.P e = true)
    (hbytes : (es.length + xs.length) * E.P.bytesOf e ≤ 140737488355328) (hlen2 : ∀ (i : Nat) el, xs[i]? = some el → el.length = E.P.cellsOf e)
    (hsrc : ∃ news : List Value, Src E.P (E.P.cellsOf e) xT vx xs.length news w ∧ ∀ (i : Nat) el (j : Nat) c, xs[i]? = some el → el[j]? = some c → ∃ u, news[i * E.P.cellsOf e + j]? = some u ∧ RV E.P G arr c u)
    (hK : vApp1 arr o e e1 es xs K) :
    ∃ u y arr' G' w', (Builtin.append_ #[sT, xT] t #[vs, vx]).run E.P w = .ok u w' ∧ K y arr' ∧ Ext G arr G' arr' ∧ RelW E G' heap arr' w0 w' ∧ RV E.P G' arr' y u := by
  unfold vApp1 at hK
  obtain ⟨i, z, hi, hz, hz1, hzs, his, hib, hs1, hb1, hb2⟩ := elemOK_spec hok
  obtain ⟨hlen1, hsh1⟩ := elen hs he1
  have hlen := app_len hlen1 hlen2
  obtain ⟨olds, hso, hget1⟩ := elems_src h hsT hsh1
  obtain ⟨news, hsn, hget2⟩ := hsrc
  have hget := join_getL hso.newsLen hget1 hget2
  have hneed : es.length + xs.length ≤ 140737488355328 := Nat.le_trans (Nat.le_mul_of_pos_right _ hb1) hbytes
  have hmulle : (es ++ xs).length * E.P.bytesOf e ≤ 140737488355328 := by rw [List.length_append]; exact hbytes
  have hone : ∀ (j : Nat) v, (olds ++ news).toArray[j]? = some v → v.oneCell' = true := fun j v hv => by
    have hm : v ∈ olds ++ news := by simpa using Array.mem_of_getElem? hv
    rcases List.mem_append.1 hm with hm | hm
    · exact hso.one v hm
    · exact hsn.one v hm
  -- a new row
  have grow : ∀ (a : Option Addr) (cap k : Nat) (arr' : List Nat), vs = .slice a es.length cap → cap < es.length + xs.length → arr'[k]? = some (es.length + xs.length) →
      (∀ j : Nat, j ≠ k → arr'[j]? = arr[j]?) → (∀ n : Nat, arr[k]? = some n → n < es.length + xs.length) → k ≤ arr.length → (arr'.length = if k < arr.length then arr.length else arr.length + 1) →
      ∃ u G' w', (Builtin.append_ #[sT, xT] t #[vs, vx]).run E.P w = .ok u w' ∧ Ext G arr G' arr' ∧ RelW E G' heap arr' w0 w' ∧ RV E.P G' arr' (.slice (.arr k) e (es ++ xs)) u := by
    intro a cap k arr' hvs hcap hak hoth hkm hkl harl
    subst hvs
    have hnc := nextslicecap_le (es.length + xs.length) cap hcap
    have hfit : Builtin.nextslicecap (es.length + xs.length) cap * i.bytes ≤ 281474976710656 := by
      rw [hib]
      have h1 : Builtin.nextslicecap (es.length + xs.length) cap * E.P.bytesOf e ≤ (es.length + xs.length + (es.length + xs.length) / 4 + 512) * E.P.bytesOf e := Nat.mul_le_mul_right _ hnc
      have h2 : (es.length + xs.length) / 4 * E.P.bytesOf e ≤ 140737488355328 / 4 := by
        have : (es.length + xs.length) / 4 * E.P.bytesOf e ≤ (es.length + xs.length) * E.P.bytesOf e / 4 := by
          rw [Nat.le_div_iff_mul_le (by omega)]
          have := Nat.div_mul_le_self (es.length + xs.length) 4
          calc (es.length + xs.length) / 4 * E.P.bytesOf e * 4 = (es.length + xs.length) / 4 * 4 * E.P.bytesOf e := by rw [Nat.mul_right_comm]
            _ ≤ (es.length + xs.length) * E.P.bytesOf e := Nat.mul_le_mul_right _ this
        omega
      have h3 : 512 * E.P.bytesOf e ≤ 536870912 := by omega
      rw [Nat.add_mul, Nat.add_mul] at h1
      omega
    have hrun := run_append_grow_src (P := E.P) w sT xT t e i z hsT hi hz a es.length cap olds (by rw [his]; exact hso.cellsD) vx xs.length news (by rw [his]; exact hsn) hcap (by omega) hfit
    generalize hcapN : grownCap w (es.length + xs.length) cap e = newCap at hrun
    have hge : es.length + xs.length ≤ newCap := by
      rw [← hcapN]; simp only [grownCap, Question.cut]; omega
    have hwd := h.drew (w.drawn + 1)
    have hsize : (olds ++ news).toArray.size = (es.length + xs.length) * E.P.cellsOf e := by
      simp [hso.newsLen, hsn.newsLen, Nat.add_mul]
    obtain ⟨hx', hr'⟩ := hwd.allocA (olds ++ news).toArray (Builtin.zeroCells z.cells (newCap - (es.length + xs.length))) e k (es.length + xs.length) (newCap * E.P.cellsOf e) arr'
      (if k < arr.length then G.ρ.set k (w.heap.size, (es.length + xs.length) * E.P.cellsOf e, newCap * E.P.cellsOf e) else G.ρ ++ [(w.heap.size, (es.length + xs.length) * E.P.cellsOf e, newCap * E.P.cellsOf e)])
      (by rw [hsize, size_zeroCells, hzs, ← Nat.add_mul]; exact Nat.le_of_eq (by congr 1; omega))
      (by
        have := h.lenρ
        split
        · rename_i hk; rw [harl, if_pos hk]; simp [this]
        · rename_i hk; rw [harl, if_neg hk]; simp [this])
      (by
        have := h.lenρ
        rw [hsize]
        show _ = some (w.heap.size, _, _)
        split
        · rename_i hk; exact List.getElem?_set_self (by omega)
        · rename_i hk; rw [List.getElem?_append_right (by omega)]; simp [show k - G.ρ.length = 0 by omega])
      hak (fun j hj => ⟨by
        have := h.lenρ
        split
        · exact List.getElem?_set_ne (Ne.symm hj)
        · rename_i hk
          by_cases hjl : j < G.ρ.length
          · exact List.getElem?_append_left hjl
          · rw [List.getElem?_append_right (by omega), List.getElem?_eq_none (by simp; omega), List.getElem?_eq_none (by omega)], hoth j hj⟩) hkm hone (by omega)
    refine ⟨_, _, _, hrun, hx', hr', ?_⟩
    have hl' : (es ++ xs).length = es.length + xs.length := List.length_append
    have key : ∀ G', G'.ρ[k]? = some (w.heap.size, (es.length + xs.length) * E.P.cellsOf e, newCap * E.P.cellsOf e) →
        (∀ (i' : Nat) el (j : Nat) c, (es ++ xs)[i']? = some el → el[j]? = some c → ∃ u, G'.F w.heap.size (0 + (i' * E.P.cellsOf e + j)) = some u ∧ RV E.P G' arr' c u) →
        RV E.P G' arr' (.slice (.arr k) e (es ++ xs)) (.slice (some ⟨w.heap.size, 0, none⟩) (es.length + xs.length) newCap) := by
      intro G' hρ hc
      have := RV.ofCells (P := E.P) (G := G') (arr := arr') (o := .arr k) (e := e) (es := es ++ xs) (b := w.heap.size) (off := 0) (cap := newCap)
        ⟨es.length + xs.length, hak, by omega, fun _ => by rw [hρ, hl']; simp⟩ hlen hmulle hb1 (by omega) hc
      rwa [hl'] at this
    refine key _ ?_ fun i' el j c hi' hj' => ?_
    · have := h.lenρ
      show (if k < arr.length then _ else _)[k]? = _
      split
      · rename_i hk; exact List.getElem?_set_self (by omega)
      · rename_i hk; rw [List.getElem?_append_right (by omega)]; simp [show k - G.ρ.length = 0 by omega]
    · obtain ⟨u, hu, hr⟩ := hget i' el j c hi' hj'
      refine ⟨u, ?_, hr.mono hx'⟩
      have hlt := (List.getElem?_eq_some_iff.1 hu).1
      simp only [Gh.freezeAt, Nat.zero_add, Nat.zero_le, true_and, Nat.sub_zero]
      rw [if_pos (by simpa using hlt)]
      simpa using hu
  have hvs : (vs = .slice none 0 0 ∧ es = []) ∨ ∃ b off cap, vs = .slice (some ⟨b, off, none⟩) es.length cap ∧ OwnOK G arr o b off es.length cap (E.P.cellsOf e1) ∧ es.length ≤ cap := by
    cases hs with
    | snil => exact .inl ⟨rfl, rfl⟩
    | sodd => exact hK.elim
    | slice _ _ _ b off cap ho _ _ _ h4 => exact .inr ⟨b, off, cap, rfl, ho, h4⟩
  have hnone : xs = [] → vs = .slice none 0 0 → es = [] → (Builtin.append_ #[sT, xT] t #[vs, vx]).run E.P w = .ok (.slice none 0 0) w := by
    rintro rfl rfl rfl
    have h0 : news = [] := List.eq_nil_of_length_eq_zero (by have := hsn.newsLen; simpa using this)
    subst h0
    have hl := hsn.len w
    have hc := hsn.cells
    simp only [List.length_nil] at hl hc
    rw [← his] at hc
    rcases hsn.kind with ⟨e', hk⟩ | hk <;> simp [Builtin.append_, run_underlying hsT, run_underlying hk, sizeOf, typeInfo, hi, hl, hc]
  have hstay : ∀ b off cap, xs = [] → vs = .slice (some ⟨b, off, none⟩) es.length cap → es.length ≤ cap → (Builtin.append_ #[sT, xT] t #[vs, vx]).run E.P w = .ok vs w := by
    rintro b off cap rfl rfl hle
    have h0 : news = [] := List.eq_nil_of_length_eq_zero (by have := hsn.newsLen; simpa using this)
    subst h0
    have := run_append_room_src (P := E.P) w sT xT t e i hsT hi b off es.length cap vx 0 [] (by rw [his]; exact hsn) (by omega) (by simp) (by simp)
    simpa [World.setCells] using this
  -- the first append to what has no slot yet
  have first : (∀ b off cap, vs = .slice (some ⟨b, off, none⟩) es.length cap → cap = es.length ∧ xs ≠ []) → K (.slice (.arr arr.length) e (es ++ xs)) (arr ++ [es.length + xs.length]) →
      ∃ u y arr' G' w', (Builtin.append_ #[sT, xT] t #[vs, vx]).run E.P w = .ok u w' ∧ K y arr' ∧ Ext G arr G' arr' ∧ RelW E G' heap arr' w0 w' ∧ RV E.P G' arr' y u := by
    intro hfull hk
    by_cases hx0 : xs = []
    · rcases hvs with ⟨hv, he⟩ | ⟨b, off, cap, hv, ho, hle⟩
      · obtain ⟨hx', hr'⟩ := h.slot (es.length + xs.length)
        refine ⟨_, _, _, _, w, hnone hx0 hv he, hk, hx', hr', ?_⟩
        subst hx0 he
        exact .snil _ _ ⟨0, by simp⟩
      · exact absurd hx0 (hfull b off cap hv).2
    · have hpos : 0 < xs.length := List.length_pos_iff.2 hx0
      obtain ⟨a, cap, hv, hcap⟩ : ∃ a cap, vs = .slice a es.length cap ∧ cap < es.length + xs.length := by
        rcases hvs with ⟨hv, he⟩ | ⟨b, off, cap, hv, ho, hle⟩
        · subst he; exact ⟨none, 0, hv, by omega⟩
        · have := (hfull b off cap hv).1; exact ⟨_, cap, hv, by omega⟩
      obtain ⟨u, G', w', g1, g2, g3, g4⟩ := grow a cap arr.length (arr ++ [es.length + xs.length]) hv hcap (by simp) (fun j hj => by
        by_cases hjl : j < arr.length
        · exact List.getElem?_append_left hjl
        · rw [List.getElem?_eq_none (by simp; omega), List.getElem?_eq_none (by omega)]) (fun n hn => by simp at hn) (Nat.le_refl _) (by simp)
      exact ⟨u, _, _, G', w', g1, hk, g2, g3, g4⟩
  cases o with
  | shared => exact hK.elim
  | full =>
    refine first (fun b off cap hv => ?_) hK.2
    rcases hvs with ⟨hv', _⟩ | ⟨b', off', cap', hv', ho, _⟩
    · rw [hv] at hv'; cases hv'
    · rw [hv] at hv'; cases hv'; exact ⟨ho, hK.1⟩
  | nil =>
    obtain ⟨he, hk⟩ := hK
    refine first (fun b off cap hv => ?_) (by subst he; simpa using hk)
    rcases hvs with ⟨hv', _⟩ | ⟨b', off', cap', hv', ho, _⟩
    · rw [hv] at hv'; cases hv'
    · exact ho.elim
  | arr k =>
    obtain ⟨⟨hee, hak⟩, hk⟩ := hK
    subst hee
    have hkl := (List.getElem?_eq_some_iff.1 hak).1
    by_cases hx0 : xs = []
    · refine ⟨vs, _, _, G, w, ?_, hk, ?_⟩
      · rcases hvs with ⟨hv, he⟩ | ⟨b, off, cap, hv, ho, hle⟩
        · rw [hnone hx0 hv he, hv]
        · exact hstay b off cap hx0 hv hle
      · subst hx0
        have hset : arr.set k (es.length + ([] : List (List V)).length) = arr := by
          refine List.ext_getElem? fun j => ?_
          by_cases hj : j = k
          · subst hj; rw [List.getElem?_set_self hkl]; simpa using hak.symm
          · rw [List.getElem?_set_ne (Ne.symm hj)]
        rw [hset]
        exact ⟨Ext.refl _ _, h, by simpa using hs⟩
    · have hpos : 0 < xs.length := List.length_pos_iff.2 hx0
      have hgrow : ∀ a cap, vs = .slice a es.length cap → cap < es.length + xs.length →
          ∃ u y arr' G' w', (Builtin.append_ #[sT, xT] t #[vs, vx]).run E.P w = .ok u w' ∧ K y arr' ∧ Ext G arr G' arr' ∧ RelW E G' heap arr' w0 w' ∧ RV E.P G' arr' y u := by
        intro a cap hv hcap
        obtain ⟨u, G', w', g1, g2, g3, g4⟩ := grow a cap k (arr.set k (es.length + xs.length)) hv hcap (List.getElem?_set_self hkl) (fun j hj => List.getElem?_set_ne (Ne.symm hj))
          (fun n hn => by rw [hak] at hn; cases hn; omega) (by omega) (by simp [hkl])
        exact ⟨u, _, _, G', w', g1, hk, g2, g3, g4⟩
      rcases hvs with ⟨hv, he⟩ | ⟨b, off, cap, hv, ho, hle⟩
      · subst he; exact hgrow none 0 hv (by simpa using hpos)
      · by_cases hcap : cap < es.length + xs.length
        · exact hgrow _ cap hv hcap
        · subst hv
          obtain ⟨n, hn1, hn2, hn3⟩ := ho
          rw [hak] at hn1
          cases hn1
          have hρ := hn3 rfl
          have hmul : (es.length + xs.length) * E.P.cellsOf e1 ≤ cap * E.P.cellsOf e1 := Nat.mul_le_mul_right _ (by omega)
          rw [Nat.add_mul] at hmul
          have hxp : 1 ≤ xs.length * E.P.cellsOf e1 := Nat.mul_pos hpos hs1
          obtain ⟨⟨cb, eb, hb1', hb2'⟩, r3, r4, r5⟩ := h.reg k b _ _ hρ (by omega)
          have hnl := hsn.newsLen
          have hrun := run_append_room_src (P := E.P) w sT xT t e1 i hsT hi b off es.length cap vx xs.length news (by rw [his]; exact hsn) (by omega)
            (fun j hj => by rw [his]; simp only [World.cell?, hb1']; simp; omega) (fun j hj => by rw [his]; simp [World.frozen?, hb1'])
          obtain ⟨w', cb', q1, q2, q3, q4, q5, q6, q7, q8, q9⟩ := run_storeCells (P := E.P) news w b (off + es.length * E.P.cellsOf e1) 0 cb eb hb1' (by omega) (fun v hv => by
            have := hsn.one v hv
            exact ⟨fun cs e => by subst e; simp [Value.oneCell'] at this, fun cs e => by subst e; simp [Value.oneCell'] at this⟩)
          have hw' : w.setCells b (off + es.length * E.P.cellsOf e1) news = w' := by
            have := run_storeCells_cells (P := E.P) b (off + es.length * E.P.cellsOf e1) news 0 w (fun j hj => by simp only [World.cell?, hb1']; simp; omega) (fun j hj => by simp [World.frozen?, hb1']) hsn.one
            rw [q1] at this
            simp only [Nat.add_zero] at this
            injection this with _ this
            exact this.symm
          rw [his, hw'] at hrun
          obtain ⟨hx', hr'⟩ := h.fillA (k := k) (b := b) (n := es.length) (m := es.length + xs.length) (c := news.toArray) (w' := w') (cb := cb) (cb' := cb') (e := eb) hρ (by omega) hak (by omega) (by simp [hnl]; omega)
            q2 q3 q4 q5 q6 hb1' q7 q8 (fun j => by have := q9 j; simpa using this) (fun j v hv => hsn.one v (by simpa using Array.mem_of_getElem? hv)) (by omega)
          refine ⟨_, _, _, _, w', hrun, hk, hx', hr', ?_⟩
          have hl' : (es ++ xs).length = es.length + xs.length := List.length_append
          have key := RV.ofCells (P := E.P) (G := ⟨(G.freezeAt b (off + es.length * E.P.cellsOf e1) news.toArray).F, G.φ, G.ρ.set k (b, off + es.length * E.P.cellsOf e1 + news.toArray.size, off + cap * E.P.cellsOf e1)⟩)
            (arr := arr.set k (es.length + xs.length)) (o := .arr k) (e := e1) (es := es ++ xs) (b := b) (off := off) (cap := cap)
            ⟨es.length + xs.length, List.getElem?_set_self hkl, by omega, fun _ => by
              have := h.lenρ
              show (G.ρ.set _ _)[_]? = _
              rw [List.getElem?_set_self (by omega)]
              simp [hnl, hl', Nat.add_mul, Nat.add_assoc]⟩ hlen hmulle hb1 (by omega) (fun i' el j c hi' hj' => by
            by_cases hil : i' < es.length
            · rw [List.getElem?_append_left hil] at hi'
              cases hsh1 with
              | sodd => simp at hi'
              | slice _ _ _ _ _ _ _ h1 h2 h3 h4 h5 h6 =>
                obtain ⟨u, hu⟩ := h5 i' el j hi' (List.getElem?_eq_some_iff.1 hj').1
                exact ⟨u, hx'.F _ _ _ hu, (h6 i' el j c u hi' hj' hu).mono hx'⟩
            · rw [List.getElem?_append_right (by omega)] at hi'
              obtain ⟨u, hu, hr⟩ := hget2 _ el j c hi' hj'
              refine ⟨u, ?_, hr.mono hx'⟩
              have hul := (List.getElem?_eq_some_iff.1 hu).1
              have hmm : i' * E.P.cellsOf e1 = es.length * E.P.cellsOf e1 + (i' - es.length) * E.P.cellsOf e1 := by rw [← Nat.add_mul]; congr 1; omega
              have hidx : off + (i' * E.P.cellsOf e1 + j) - (off + es.length * E.P.cellsOf e1) = (i' - es.length) * E.P.cellsOf e1 + j := by omega
              simp only [Gh.freezeAt]
              rw [if_pos ⟨by trivial, by omega, by simp; omega⟩, hidx]
              simpa using hu)
          rw [hl'] at key
          exact key

theorem append_out {E : Env} {G : Gh} {heap : List VObj} {arr : List Nat} {w0 : Base} {w : World} (h : RelW E G heap arr w0 w) {s x : V} {vs vx : Value} {t : TypeId} {sT xT : TypeId}
    {K : V → List Nat → Prop} (hs : RV E.P G arr s vs) (hx : RV E.P G arr x vx) (hK : vAppend E arr sT xT s x K) :
    ∃ u y arr' G' w', (Builtin.append_ #[sT, xT] t #[vs, vx]).run E.P w = .ok u w' ∧ K y arr' ∧ Ext G arr G' arr' ∧ RelW E G' heap arr' w0 w' ∧ RV E.P G' arr' y u := by
  unfold vAppend at hK
  split at hK
  case h_3 => exact hK.elim
  · rename_i e ex o e1 es o2 e2 xs hsT hxT
    obtain ⟨⟨he1, he2, hok, hbytes⟩, hK⟩ := hK
    obtain ⟨hlen2, hsh2⟩ := elen hx he2
    exact append_core h hs hsT he1 hok hbytes hlen2 (elems_src h hxT hsh2) hK
  · rename_i e o e1 es b hsT hxT
    obtain ⟨⟨he1, hc1, hok, hbytes⟩, hK⟩ := hK
    have hl : (bytesV b).length = b.size := by simp [bytesV]
    have hget : ∀ (i : Nat) el, (bytesV b)[i]? = some el → ∃ y : UInt8, b.data.toList[i]? = some y ∧ el = [.int .u8 y.toNat] := fun i el hi => by
      obtain ⟨y, hy, rfl⟩ := List.getElem?_map ▸ hi |> Option.map_eq_some_iff.1
      exact ⟨y, hy, rfl⟩
    cases hx
    refine append_core h hs hsT he1 hok hbytes (fun i el hi => ?_) ⟨Go.byteCells b, by rw [hc1, hl]; exact Src.ofString w hxT b, fun i el j c hi hj => ?_⟩ hK
    · obtain ⟨y, _, rfl⟩ := hget i el hi
      rw [hc1]; rfl
    · obtain ⟨y, hy, rfl⟩ := hget i el hi
      cases j with
      | succ j => simp at hj
      | zero =>
        simp at hj
        subst hj
        exact ⟨.int .u8 y.toNat, by rw [hc1]; simp only [Go.byteCells, Nat.mul_one, Nat.add_zero, List.getElem?_map, hy, Option.map_some], .int _ _⟩

end Go.Vg
set_option linter.unusedVariables false
set_option linter.unusedSimpArgs false
namespace Go.Vg
open Go.RowKit

def V.some? : V → Bool
  | .junk => false
  | _ => true

theorem V.some?_ne {x : V} (h : x.some? = true) : x ≠ .junk := fun e => by subst e; simp [V.some?] at h

theorem oneCell_of {v : Value} (h : (∀ cs, v ≠ .agg cs) ∧ ∀ cs, v ≠ .tuple cs) : v.oneCell' = true := by
  cases v
  case agg cs => exact absurd rfl (h.1 cs)
  case tuple cs => exact absurd rfl (h.2 cs)
  all_goals rfl

/-- Cells and what they hold. -/
def RL (P : Program) (G : Gh) (arr : List Nat) (cs : List V) (vs : Array Value) : Prop :=
  vs.size = cs.length ∧ ∀ (j : Nat) c v, cs[j]? = some c → vs[j]? = some v → RV P G arr c v

theorem set_fold_get (off : Nat) : ∀ (vs : List Value) (i : Nat) (cells : Array Value), off + i + vs.length ≤ cells.size →
    ((vs.zipIdx i).foldl (fun (cs : Array Value) (p : Value × Nat) => cs.setIfInBounds (off + p.2) p.1) cells).size = cells.size ∧
    ∀ j, ((vs.zipIdx i).foldl (fun (cs : Array Value) (p : Value × Nat) => cs.setIfInBounds (off + p.2) p.1) cells)[j]? = if off + i ≤ j ∧ j < off + i + vs.length then vs[j - (off + i)]? else cells[j]? := by
  intro vs
  induction vs with
  | nil => intro i cells h; refine ⟨rfl, fun j => ?_⟩; simp only [List.length_nil, List.zipIdx_nil, List.foldl_nil]; rw [if_neg (by omega)]
  | cons v vs ih =>
    intro i cells h
    simp only [List.length_cons] at h
    simp only [List.zipIdx_cons, List.foldl_cons, List.length_cons]
    obtain ⟨h1, h2⟩ := ih (i + 1) (cells.setIfInBounds (off + i) v) (by simp; omega)
    refine ⟨by rw [h1]; simp, fun j => ?_⟩
    rw [h2 j]
    by_cases e1 : j = off + i
    · subst e1
      rw [if_neg (by omega), if_pos (by omega)]
      have : off + i < cells.size := by omega
      simp [this]
    · by_cases e2 : off + (i + 1) ≤ j ∧ j < off + (i + 1) + vs.length
      · rw [if_pos e2, if_pos (by omega)]
        have : j - (off + i) = (j - (off + (i + 1))) + 1 := by omega
        rw [this]; simp
      · rw [if_neg e2, if_neg (by omega)]
        simp [Ne.symm e1]

def fillV (place : Nat → Option (Nat × Nat)) : List V → List (Nat × V) → Option (List V)
  | cs, [] => some cs
  | cs, (i, x) :: r =>
    match place i with
    | none => none
    | some (off, size) => if x.some? = true ∧ (cellsV x).length = size ∧ off + size ≤ cs.length then fillV place (over cs off (cellsV x)) r else none

theorem fill_rel {P : Program} {G : Gh} {arr : List Nat} {place : Nat → Option (Nat × Nat)} : ∀ (parts : List (Nat × V)) (vparts : List (Nat × Value)) (cs : List V) (vs : Array Value) (cs' : List V),
    RL P G arr cs vs → parts.length = vparts.length → (∀ (j : Nat) p q, parts[j]? = some p → vparts[j]? = some q → p.1 = q.1 ∧ RV P G arr p.2 q.2) → fillV place cs parts = some cs' →
    ∃ vs', Instr.fill place vs vparts = some vs' ∧ RL P G arr cs' vs' := by
  intro parts
  induction parts with
  | nil =>
    intro vparts cs vs cs' hr hl _ hf
    cases vparts with
    | nil => simp only [fillV] at hf; cases hf; exact ⟨vs, rfl, hr⟩
    | cons _ _ => simp at hl
  | cons p parts ih =>
    intro vparts cs vs cs' hr hl hp hf
    cases vparts with
    | nil => simp at hl
    | cons q vparts =>
      obtain ⟨i, x⟩ := p
      obtain ⟨i', v⟩ := q
      obtain ⟨hii, hxv⟩ := hp 0 _ _ rfl rfl
      simp only at hii hxv
      subst hii
      simp only [fillV] at hf
      split at hf
      · cases hf
      · rename_i off size hpl
        split at hf
        · rename_i hc
          obtain ⟨hs, hsz, hle⟩ := hc
          obtain ⟨hl1, hr1⟩ := hxv.cellsV (V.some?_ne hs)
          obtain ⟨g1, g2⟩ := set_fold_get off v.cells.toList 0 vs (by rw [hr.1]; simp; omega)
          have hfold : v.cells.zipIdx.foldl (fun (cs : Array Value) (p : Value × Nat) => cs.setIfInBounds (off + p.2) p.1) vs =
              (v.cells.toList.zipIdx 0).foldl (fun (cs : Array Value) (p : Value × Nat) => cs.setIfInBounds (off + p.2) p.1) vs := by
            rw [← Array.foldl_toList, Array.toList_zipIdx]
          obtain ⟨vs', h1, h2⟩ := ih vparts (over cs off (cellsV x)) (v.cells.zipIdx.foldl (fun (cs : Array Value) (p : Value × Nat) => cs.setIfInBounds (off + p.2) p.1) vs) cs'
            ⟨by rw [hfold, g1, over_length _ _ _ (by omega)]; exact hr.1, fun j c u hc hu => by
              rw [over_get _ _ _ (by omega)] at hc
              rw [hfold, g2 j] at hu
              simp only [Nat.add_zero, Array.length_toList] at hu
              by_cases hin : off ≤ j ∧ j < off + (cellsV x).length
              · rw [if_pos hin] at hc
                rw [if_pos (by omega)] at hu
                exact hr1 _ _ _ hc (by simpa using hu)
              · rw [if_neg hin] at hc
                rw [if_neg (by omega)] at hu
                exact hr.2 j c u hc hu⟩ (by simpa using hl) (fun j p q hp' hq' => hp (j + 1) p q (by simpa using hp') (by simpa using hq')) hf
          refine ⟨vs', ?_, h2⟩
          simp only [Instr.fill, hpl]
          rw [if_neg (by rw [hr.1, Bool.or_eq_true, decide_eq_true_eq, decide_eq_true_eq]; omega)]
          exact h1
        · cases hf

/-- The zero of a type, its cells. -/
def zeroL (E : Env) (t : TypeId) : List V :=
  match E.P.info? t with
  | some i => match i.zero with
    | some z => z.cells.toList.map ofV1
    | none => []
  | none => []

theorem zeroL_rel {E : Env} {G : Gh} {arr : List Nat} {t : TypeId} {i : TypeInfo} {z : Value} (hi : E.P.info? t = some i) (hz : i.zero = some z) : RL E.P G arr (zeroL E t) z.cells := by
  simp only [zeroL, hi, hz]
  refine ⟨by simp, fun j c v hc hv => ?_⟩
  simp only [List.getElem?_map, Array.getElem?_toList, hv, Option.map_some, Option.some.injEq] at hc
  exact hc ▸ RV.ofV1 v

def zeroOK (E : Env) (t : TypeId) : Bool :=
  match E.P.info? t with
  | some i => i.zero.isSome
  | none => false

theorem zeroOK_spec {E : Env} {t : TypeId} (h : zeroOK E t = true) : ∃ i z, E.P.info? t = some i ∧ i.zero = some z := by
  unfold zeroOK at h
  cases hi : E.P.info? t with
  | none => simp [hi] at h
  | some i =>
    simp only [hi] at h
    obtain ⟨z, hz⟩ := Option.isSome_iff_exists.1 h
    exact ⟨i, z, rfl, hz⟩

theorem run_zeroValue {P : Program} {w : World} {t : TypeId} {i : TypeInfo} {z : Value} (hi : P.info? t = some i) (hz : i.zero = some z) : (zeroValue t).run P w = .ok z w := by
  simp [zeroValue, run_info hi, hz]

/-- Where the fields of a struct lie. -/
def places (P : Program) (fs : Array Field) (i : Nat) : Option (Nat × Nat) := (fs[i]?).map fun f => (f.offset, P.cellsOf f.type)

def infoOK (P : Program) (t : TypeId) : Bool := (P.info? t).isSome

def vBuild (E : Env) (t : TypeId) (parts : List (Nat × V)) (K : V → Prop) : Prop :=
  match E.P.underlying t with
  | some (.struct fs) => (zeroOK E t = true ∧ fs.all (fun f => infoOK E.P f.type) = true) ∧
    match fillV (places E.P fs) (zeroL E t) parts with
    | some cs => K (.agg cs)
    | none => False
  | some (.array _ e) => (zeroOK E t = true ∧ infoOK E.P e = true) ∧
    match fillV (fun i => some (i * E.P.cellsOf e, E.P.cellsOf e)) (zeroL E t) parts with
    | some cs => K (.agg cs)
    | none => False
  | _ => False

theorem run_mapM_sizes {P : Program} {w : World} : ∀ (fs : List Field), (fs.all fun f => infoOK P f.type) = true →
    (fs.mapM fun f => (do pure (f.offset, ← sizeOf f.type) : Sem (Nat × Nat))).run P w = .ok (fs.map fun f => (f.offset, P.cellsOf f.type)) w := by
  intro fs
  induction fs with
  | nil => intro _; rfl
  | cons f fs ih =>
    intro h
    simp only [List.all_cons, Bool.and_eq_true] at h
    obtain ⟨i, hi⟩ := Option.isSome_iff_exists.1 h.1
    simp only [List.mapM_cons, Sem.run_bind, run_sizeOf hi, Result.andThen_ok, Sem.run_pure, ih h.2, List.map_cons]

theorem build_out {E : Env} {G : Gh} {arr : List Nat} {w : World} {t : TypeId} {parts : List (Nat × V)} {vparts : Array (Nat × Value)} {K : V → Prop} (hl : parts.length = vparts.size)
    (hp : ∀ (j : Nat) p q, parts[j]? = some p → vparts[j]? = some q → p.1 = q.1 ∧ RV E.P G arr p.2 q.2) (hK : vBuild E t parts K) :
    ∃ u y, (Instr.build t vparts).run E.P w = .ok u w ∧ K y ∧ RV E.P G arr y u := by
  have fin : ∀ (place : Nat → Option (Nat × Nat)) i z, E.P.info? t = some i → i.zero = some z → (match fillV place (zeroL E t) parts with | some cs => K (.agg cs) | none => False) →
      ∃ cells y, Instr.fill place z.cells vparts.toList = some cells ∧ K y ∧ RV E.P G arr y (.agg cells) := by
    intro place i z hi hz hk
    cases hf : fillV place (zeroL E t) parts with
    | none => rw [hf] at hk; exact hk.elim
    | some cs =>
      rw [hf] at hk
      obtain ⟨vs', h1, h2, h3⟩ := fill_rel parts vparts.toList (zeroL E t) z.cells cs (zeroL_rel hi hz) (by simpa using hl) (fun j p q hj hq => hp j p q hj (by simpa using hq)) hf
      exact ⟨vs', _, h1, hk, .agg _ _ h2.symm h3⟩
  unfold vBuild at hK
  split at hK
  · rename_i fs hd
    obtain ⟨⟨h1, h2⟩, hk⟩ := hK
    obtain ⟨i, z, hi, hz⟩ := zeroOK_spec h1
    obtain ⟨cells, y, g1, g2, g3⟩ := fin _ i z hi hz hk
    refine ⟨.agg cells, y, ?_, g2, g3⟩
    have hm : (fs.mapM fun f => (do pure (f.offset, ← sizeOf f.type) : Sem (Nat × Nat))).run E.P w = .ok (fs.map fun f => (f.offset, E.P.cellsOf f.type)) w := by
      have := run_mapM_sizes (P := E.P) (w := w) fs.toList (by simpa using h2)
      rw [Array.mapM_eq_mapM_toList]
      simp only [Sem.run_map, this, Result.andThen_ok]
      congr 1
      apply Array.ext'
      simp
    have hplace : (fun i => (fs.map fun f => (f.offset, E.P.cellsOf f.type))[i]?) = places E.P fs := by
      funext i; simp [places]
    simp only [Instr.build, Sem.run_bind, run_zeroValue hi hz, Result.andThen_ok, run_und hd, hm, hplace, g1, Sem.run_pure]
  · rename_i n e hd
    obtain ⟨⟨h1, h2⟩, hk⟩ := hK
    obtain ⟨i, z, hi, hz⟩ := zeroOK_spec h1
    obtain ⟨cells, y, g1, g2, g3⟩ := fin _ i z hi hz hk
    obtain ⟨ie, hie⟩ := Option.isSome_iff_exists.1 h2
    refine ⟨.agg cells, y, ?_, g2, g3⟩
    simp only [Instr.build, Sem.run_bind, run_zeroValue hi hz, Result.andThen_ok, run_und hd, run_sizeOf hie, g1, Sem.run_pure]
  · exact hK.elim

/-- Elements set one by one. -/
def setEls (n sz : Nat) : List (List V) → List (Nat × V) → Option (List (List V))
  | es, [] => some es
  | es, (i, x) :: r => if x.some? = true ∧ (cellsV x).all V.cell = true ∧ (cellsV x).length = sz ∧ i < n then setEls n sz (es.set i ((cellsV x).map share1)) r else none

/-- A row of lists and what it holds. -/
def RR (P : Program) (G : Gh) (arr : List Nat) (sz : Nat) (es : List (List V)) (vs : Array Value) : Prop :=
  vs.size = es.length * sz ∧ (∀ (i : Nat) el, es[i]? = some el → el.length = sz) ∧ (∀ (j : Nat) v, vs[j]? = some v → v.oneCell' = true) ∧
  ∀ (i : Nat) el (j : Nat) c, es[i]? = some el → el[j]? = some c → ∃ u, vs[i * sz + j]? = some u ∧ RV P G arr c u

theorem setEls_rel {P : Program} {G : Gh} {arr : List Nat} {n sz : Nat} : ∀ (parts : List (Nat × V)) (vparts : List (Nat × Value)) (es : List (List V)) (vs : Array Value) (es' : List (List V)),
    es.length = n → RR P G arr sz es vs → parts.length = vparts.length → (∀ (j : Nat) p q, parts[j]? = some p → vparts[j]? = some q → p.1 = q.1 ∧ RV P G arr p.2 q.2) → setEls n sz es parts = some es' →
    ∃ vs', Instr.fill (fun i => some (i * sz, sz)) vs vparts = some vs' ∧ RR P G arr sz es' vs' ∧ es'.length = n := by
  intro parts
  induction parts with
  | nil =>
    intro vparts es vs es' hn hr hl _ hf
    cases vparts with
    | nil => simp only [setEls] at hf; cases hf; exact ⟨vs, rfl, hr, hn⟩
    | cons _ _ => simp at hl
  | cons p parts ih =>
    intro vparts es vs es' hn hr hl hp hf
    cases vparts with
    | nil => simp at hl
    | cons q vparts =>
      obtain ⟨i, x⟩ := p
      obtain ⟨i', v⟩ := q
      obtain ⟨hii, hxv⟩ := hp 0 _ _ rfl rfl
      simp only at hii hxv
      subst hii
      simp only [setEls] at hf
      split at hf
      · rename_i hc
        obtain ⟨hs, hcell, hsz, hin⟩ := hc
        obtain ⟨hl1, hr1⟩ := hxv.cellsV (V.some?_ne hs)
        obtain ⟨r1, r2, r3, r4⟩ := hr
        have hmul : (i + 1) * sz ≤ es.length * sz := Nat.mul_le_mul_right _ (by omega)
        rw [Nat.add_mul, Nat.one_mul] at hmul
        obtain ⟨g1, g2⟩ := set_fold_get (i * sz) v.cells.toList 0 vs (by rw [r1]; simp; omega)
        have hfold : v.cells.zipIdx.foldl (fun (cs : Array Value) (p : Value × Nat) => cs.setIfInBounds (i * sz + p.2) p.1) vs =
            (v.cells.toList.zipIdx 0).foldl (fun (cs : Array Value) (p : Value × Nat) => cs.setIfInBounds (i * sz + p.2) p.1) vs := by
          rw [← Array.foldl_toList, Array.toList_zipIdx]
        obtain ⟨vs', h1, h2, h3⟩ := ih vparts (es.set i ((cellsV x).map share1)) (v.cells.zipIdx.foldl (fun (cs : Array Value) (p : Value × Nat) => cs.setIfInBounds (i * sz + p.2) p.1) vs) es' (by simpa using hn)
          ⟨by rw [hfold, g1, r1]; simp, fun j el hj => by
            by_cases e : j = i
            · subst e
              rw [List.getElem?_set_self (by omega)] at hj
              cases hj; simpa using hsz
            · rw [List.getElem?_set_ne (Ne.symm e)] at hj
              exact r2 j el hj, fun j u hu => by
            rw [hfold, g2 j] at hu
            simp only [Nat.add_zero, Array.length_toList] at hu
            by_cases hjin : i * sz ≤ j ∧ j < i * sz + v.cells.size
            · rw [if_pos hjin] at hu
              have hjc : j - i * sz < (cellsV x).length := by omega
              have hu' : v.cells[j - i * sz]? = some u := by simpa using hu
              have h1 := hr1 _ _ _ (List.getElem?_eq_getElem hjc) hu'
              have := h1.cell_one (List.all_eq_true.1 hcell _ (List.getElem_mem hjc))
              exact oneCell_of this
            · rw [if_neg hjin] at hu
              exact r3 j u hu, fun k el j c hk hj => by
            by_cases e : k = i
            · subst e
              rw [List.getElem?_set_self (by omega)] at hk
              cases hk
              rw [List.getElem?_map] at hj
              obtain ⟨c', hc', rfl⟩ := Option.map_eq_some_iff.1 hj
              have hjl := (List.getElem?_eq_some_iff.1 hc').1
              have hjv : j < v.cells.size := by omega
              refine ⟨v.cells[j], ?_, (hr1 j c' _ hc' (Array.getElem?_eq_getElem hjv)).share1⟩
              rw [hfold, g2]
              simp only [Nat.add_zero, Array.length_toList]
              rw [if_pos (by omega), show k * sz + j - k * sz = j by omega]
              simp [hjv]
            · rw [List.getElem?_set_ne (Ne.symm e)] at hk
              obtain ⟨u, hu, hru⟩ := r4 k el j c hk hj
              refine ⟨u, ?_, hru⟩
              rw [hfold, g2]
              simp only [Nat.add_zero, Array.length_toList]
              have hjl := (List.getElem?_eq_some_iff.1 hj).1
              have hel := r2 k el hk
              rw [if_neg]
              · exact hu
              · intro hh
                rcases Nat.lt_or_gt_of_ne e with hlt | hgt
                · have : (k + 1) * sz ≤ i * sz := Nat.mul_le_mul_right _ (by omega)
                  rw [Nat.add_mul, Nat.one_mul] at this
                  omega
                · have : (i + 1) * sz ≤ k * sz := Nat.mul_le_mul_right _ (by omega)
                  rw [Nat.add_mul, Nat.one_mul] at this
                  omega⟩ (by simpa using hl) (fun j p q hp' hq' => hp (j + 1) p q (by simpa using hp') (by simpa using hq')) hf
        refine ⟨vs', ?_, h2, h3⟩
        simp only [Instr.fill]
        rw [if_neg (by rw [Bool.or_eq_true, decide_eq_true_eq, decide_eq_true_eq]; omega)]
        exact h1
      · cases hf

def vBuildSlice (E : Env) (t : TypeId) (len : Nat) (parts : List (Nat × V)) (K : V → Prop) : Prop :=
  match E.P.underlying t with
  | some (.slice e) => (elemOK E.P e = true ∧ len * E.P.cellsOf e ≤ 16777216) ∧
    match setEls len (E.P.cellsOf e) (List.replicate len ((zeroL E e).map share1)) parts with
    | some es => K (.slice .full e es)
    | none => False
  | _ => False

theorem buildSlice_out {E : Env} {G : Gh} {heap : List VObj} {arr : List Nat} {w0 : Base} {w : World} (h : RelW E G heap arr w0 w) {t : TypeId} {len : Nat} {parts : List (Nat × V)} {vparts : Array (Nat × Value)}
    {K : V → Prop} (hl : parts.length = vparts.size) (hp : ∀ (j : Nat) p q, parts[j]? = some p → vparts[j]? = some q → p.1 = q.1 ∧ RV E.P G arr p.2 q.2) (hK : vBuildSlice E t len parts K) :
    ∃ u y G' w', (Instr.buildSlice t len vparts).run E.P w = .ok u w' ∧ K y ∧ Ext G arr G' arr ∧ RelW E G' heap arr w0 w' ∧ RV E.P G' arr y u := by
  unfold vBuildSlice at hK
  split at hK
  case h_2 => exact hK.elim
  rename_i e hd
  obtain ⟨⟨hok, hle⟩, hk⟩ := hK
  obtain ⟨i, z, hi, hz, hz1, hzs, his, hib, hs1, hb1, hb2⟩ := elemOK_spec hok
  cases hf : setEls len (E.P.cellsOf e) (List.replicate len ((zeroL E e).map share1)) parts with
  | none => rw [hf] at hk; exact hk.elim
  | some es =>
    rw [hf] at hk
    have hzl := zeroL_rel (G := G) (arr := arr) hi hz
    have hr0 : RR E.P G arr (E.P.cellsOf e) (List.replicate len ((zeroL E e).map share1)) ((Array.range (len * E.P.cellsOf e)).map (z.cells[· % z.cells.size]!)) := by
      refine ⟨by simp, fun j el hj => ?_, fun j v hv => ?_, fun k el j c hk' hj => ?_⟩
      · rw [List.getElem?_replicate] at hj
        split at hj <;> cases hj
        rw [List.length_map, ← hzl.1]; exact hzs
      · rw [Array.getElem?_map] at hv
        obtain ⟨j', hj', rfl⟩ := Option.map_eq_some_iff.1 hv
        have hlt : j' % z.cells.size < z.cells.size := Nat.mod_lt _ (by omega)
        rw [getElem!_pos z.cells _ hlt]
        exact Array.all_eq_true.1 hz1 _ hlt
      · rw [List.getElem?_replicate] at hk'
        have hkl : k < len := by
          split at hk'
          · assumption
          · cases hk'
        rw [if_pos hkl] at hk'
        cases hk'
        rw [List.getElem?_map] at hj
        obtain ⟨c', hc', rfl⟩ := Option.map_eq_some_iff.1 hj
        have hjl := (List.getElem?_eq_some_iff.1 hc').1
        have hjz : j < z.cells.size := by rw [hzl.1]; exact hjl
        have hlt : k * E.P.cellsOf e + j < len * E.P.cellsOf e := by
          have : (k + 1) * E.P.cellsOf e ≤ len * E.P.cellsOf e := Nat.mul_le_mul_right _ hkl
          rw [Nat.add_mul, Nat.one_mul] at this
          omega
        refine ⟨z.cells[j], ?_, (hzl.2 j c' _ hc' (Array.getElem?_eq_getElem hjz)).share1⟩
        have hmod : (k * E.P.cellsOf e + j) % z.cells.size = j := by
          rw [hzs, Nat.mul_comm, Nat.mul_add_mod, Nat.mod_eq_of_lt (by omega)]
        have hlt' : (k * E.P.cellsOf e + j) % z.cells.size < z.cells.size := by omega
        simp only [Array.getElem?_map, Array.getElem?_range, hlt, if_true, Option.map_some, Option.some.injEq]
        rw [getElem!_pos z.cells _ hlt']
        congr 1
    obtain ⟨vs', g1, ⟨g2, g3, g4, g5⟩, g6⟩ := setEls_rel parts vparts.toList _ _ es (by simp) hr0 (by simpa using hl) (fun j p q hj hq => hp j p q hj (by simpa using hq)) hf
    have hx := h.extF vs'
    have hr := h.allocF vs' e (fun j v hv => g4 j v hv)
    refine ⟨.slice (some ⟨w.heap.size, 0, none⟩) len len, _, _, _, ?_, hk, hx, hr, ?_⟩
    · have hn : ¬ (16777216 < len * E.P.cellsOf e) := by omega
      simp only [Instr.buildSlice, Sem.run_bind, run_und hd, Result.andThen_ok, run_sizeOf hi]
      rw [if_neg (by omega)]
      by_cases h0 : len * E.P.cellsOf e = 0
      · rw [if_pos h0]
        have hempty : (Array.range (len * E.P.cellsOf e)).map (fun x => z.cells[x % z.cells.size]!) = (Array.range (len * E.P.cellsOf e)).map (fun x => (#[] : Array Value)[x % (#[] : Array Value).size]!) := by
          rw [h0]; simp
        simp only [Sem.run_pure, Result.andThen_ok, ← hempty, g1, Sem.run_bind, newRow, newObj, Sem.run]
        rfl
      · rw [if_neg h0]
        simp only [Sem.run_bind, run_zeroValue hi hz, Sem.run_pure, Result.andThen_ok, g1, newRow, newObj, Sem.run]
        rfl
    · rw [← g6]
      refine RV.ofCells rfl g3 ?_ hb1 (Nat.le_refl _) fun i' el j c hi' hj' => ?_
      · have : es.length ≤ es.length * E.P.cellsOf e := Nat.le_mul_of_pos_right _ hs1
        rw [g6] at this ⊢
        calc len * E.P.bytesOf e ≤ 16777216 * 1048576 := Nat.mul_le_mul (by omega) hb2
          _ ≤ _ := by decide
      · obtain ⟨u, hu, hru⟩ := g5 i' el j c hi' hj'
        refine ⟨u, ?_, hru.mono hx⟩
        simp only [Gh.freezeNew, Nat.zero_add, if_true]
        exact hu

/-! ### Zeros, by program -/
def zeroP (P : Program) (t : TypeId) : List V :=
  match P.info? t with
  | some i => match i.zero with
    | some z => z.cells.toList.map ofV1
    | none => []
  | none => []
def zeroOKP (P : Program) (t : TypeId) : Bool :=
  match P.info? t with
  | some i => i.zero.isSome
  | none => false

end Go.Vg
set_option linter.unusedVariables false
set_option linter.unusedSimpArgs false
namespace Go.Vg
open Go.RowKit

/-! ### Maps with keys that are integers, strings or Booleans -/
def keyV : TypeDesc → V → Bool
  | .int k, .int k' _ => decide (k' = k)
  | .string, .str _ => true
  | .bool, .bool _ => true
  | _, _ => false

def sameV : TypeDesc → V → V → Option Bool
  | .int _, .int k a, .int k' b => if k = k' then some (a == b) else none
  | .string, .str a, .str b => some (a == b)
  | .bool, .bool a, .bool b => some (a == b)
  | _, _, _ => none

/-- Where a key is, counted from i, and its value. -/
def findV (d : TypeDesc) (k : V) : List (V × V) → Nat → Option (Option (Nat × V))
  | [], _ => some none
  | (k', v) :: r, i => match sameV d k k' with
    | some true => some (some (i, v))
    | some false => findV d k r (i + 1)
    | none => none

def RP (P : Program) (G : Gh) (arr : List Nat) (es : List (V × V)) (m : List MapEntry) : Prop :=
  m.length = es.length ∧ ∀ (j : Nat) kx vx, es[j]? = some (kx, vx) → ∃ e : MapEntry, m[j]? = some e ∧ RV P G arr kx e.key ∧ RV P G arr vx e.val

theorem sameV_spec {P : Program} {G : Gh} {arr : List Nat} {d : TypeDesc} {x y : V} {vx vy : Value} {b : Bool} (hx : RV P G arr x vx) (hy : RV P G arr y vy) (h : sameV d x y = some b) : Instr.sameNow d vx vy = some b := by
  unfold sameV at h
  split at h
  · cases hx; cases hy; exact h
  · cases hx; cases hy; exact h
  · cases hx; cases hy; exact h
  · cases h

theorem sameV_true {P : Program} {G : Gh} {arr : List Nat} {d : TypeDesc} {x y : V} {vx vy : Value} (hx : RV P G arr x vx) (hy : RV P G arr y vy) (h : sameV d x y = some true) : vx = vy := by
  unfold sameV at h
  split at h
  · cases hx; cases hy
    split at h
    · rename_i e; subst e
      simp only [Option.some.injEq, beq_iff_eq] at h
      subst h
      rfl
    · cases h
  · cases hx; cases hy
    simp only [Option.some.injEq] at h
    rw [MapKept.bytes_beq] at h
    rw [h]
  · cases hx; cases hy
    simp only [Option.some.injEq, beq_iff_eq] at h
    subst h
    rfl
  · cases h

theorem keyV_spec {P : Program} {G : Gh} {arr : List Nat} {d : TypeDesc} {x : V} {v : Value} (hx : RV P G arr x v) (h : keyV d x = true) : MapKept.IsKey d v := by
  unfold keyV at h
  split at h
  · cases hx; exact (of_decide_eq_true h : _ = _)
  · cases hx; trivial
  · cases hx; trivial
  · cases h

theorem findV_spec {P : Program} {G : Gh} {arr : List Nat} {d : TypeDesc} {k : V} {kv : Value} (hk : RV P G arr k kv) : ∀ (es : List (V × V)) (m : List MapEntry) (i : Nat) r, RP P G arr es m → findV d k es i = some r →
    (r = none ∧ Instr.findNow d kv m i = some none) ∨ ∃ j v e, r = some (i + j, v) ∧ m[j]? = some e ∧ es[j]?.map (·.2) = some v ∧ Instr.findNow d kv m i = some (some (i + j, e.val)) ∧ e.key = kv ∧ RV P G arr v e.val := by
  intro es
  induction es with
  | nil =>
    intro m i r hp h
    have : m = [] := List.eq_nil_of_length_eq_zero hp.1
    subst this
    simp only [findV, Option.some.injEq] at h
    subst h
    exact .inl ⟨rfl, rfl⟩
  | cons p es ih =>
    obtain ⟨k', v⟩ := p
    intro m i r hp h
    cases m with
    | nil => have := hp.1; simp at this
    | cons e m =>
      obtain ⟨e', he', h1, h2⟩ := hp.2 0 k' v rfl
      simp at he'
      subst he'
      simp only [findV] at h
      split at h
      · rename_i hs
        simp only [Option.some.injEq] at h
        subst h
        exact .inr ⟨0, v, e, rfl, rfl, rfl, by simp [Instr.findNow, sameV_spec hk h1 hs], (sameV_true hk h1 hs).symm, h2⟩
      · rename_i hs
        rcases ih m (i + 1) r ⟨by have := hp.1; simpa using this, fun j kx vx hj => by
          obtain ⟨e2, g1, g2⟩ := hp.2 (j + 1) kx vx (by simpa using hj)
          exact ⟨e2, by simpa using g1, g2⟩⟩ h with ⟨g1, g2⟩ | ⟨j, u, e2, g1, g2, g3, g4, g5, g6⟩
        · exact .inl ⟨g1, by simp [Instr.findNow, sameV_spec hk h1 hs, g2]⟩
        · refine .inr ⟨j + 1, u, e2, by rw [g1]; congr 2; omega, by simpa using g2, by simpa using g3, ?_, g5, g6⟩
          simp only [Instr.findNow, sameV_spec hk h1 hs, g4]
          congr 3; omega
      · cases h

/-- The entries of a map. -/
def mapAt (heap : List VObj) : V → Option (List (V × V))
  | .nilmap => some []
  | .map id => match heap[id]? with
    | some (.map es) => some es
    | _ => none
  | _ => none

/-- The zero of a type, as a value. -/
def zeroVP (P : Program) (t : TypeId) : V :=
  match P.info? t with
  | some i => match i.zero with
    | some z => ofV z
    | none => .junk
  | none => .junk

def vLook (E : Env) (heap : List VObj) (t : TypeId) (m k : V) (ok : Bool) (K : V → Prop) : Prop :=
  match E.P.underlying t, mapAt heap m with
  | some (.map kt et), some es => match E.P.underlying kt with
    | some d => keyV d k = true ∧ match findV d k es 0 with
      | some (some (_, v)) => K (if ok then .tuple [v, .bool true] else v)
      | some none => zeroOKP E.P et = true ∧ K (if ok then .tuple [zeroVP E.P et, .bool false] else zeroVP E.P et)
      | none => False
    | none => False
  | _, _ => False

theorem look_out {E : Env} {G : Gh} {heap : List VObj} {arr : List Nat} {w0 : Base} {w : World} (h : RelW E G heap arr w0 w) {t : TypeId} {m k : V} {vm vk : Value} {ok : Bool} {K : V → Prop} (hm : RV E.P G arr m vm) (hk : RV E.P G arr k vk)
    (hK : vLook E heap t m k ok K) : ∃ u y, (Instr.lookup t vm vk ok).run E.P w = .ok u w ∧ K y ∧ RV E.P G arr y u := by
  unfold vLook at hK
  split at hK
  case h_2 => exact hK.elim
  rename_i kt et es ht hat
  split at hK
  case h_2 => exact hK.elim
  rename_i d hd
  obtain ⟨hkey, hK⟩ := hK
  have hik := keyV_spec hk hkey
  -- the entries
  have hes : ∃ ms : Array MapEntry, RP E.P G arr es ms.toList ∧ ((vm = .map none ∧ ms = #[]) ∨ ∃ b clk, vm = .map (some b) ∧ w.heap[b]? = some (.map ms clk)) := by
    unfold mapAt at hat
    split at hat
    · cases hm
      simp only [Option.some.injEq] at hat
      subst hat
      exact ⟨#[], ⟨rfl, by simp⟩, .inl ⟨rfl, rfl⟩⟩
    · rename_i id
      split at hat
      · rename_i es' hh
        simp only [Option.some.injEq] at hat
        subst hat
        cases hm with
        | map _ b hb =>
          obtain ⟨b', hb', ms, clk, g1, g2, g3⟩ := h.obj id _ hh
          rw [hb] at hb'; cases hb'
          refine ⟨ms, ⟨by simpa using g2, fun j kx vx hj => ?_⟩, .inr ⟨b, clk, rfl, g1⟩⟩
          obtain ⟨e, q1, q2⟩ := g3 j kx vx hj
          exact ⟨e, by simpa using q1, q2⟩
      · cases hat
    · cases hat
  obtain ⟨ms, hrp, hvm⟩ := hes
  have hck := MapKept.run_checkKey (w := w) hd hik ms.isEmpty 9999
  split at hK
  · rename_i i v hf
    rcases findV_spec hk es ms.toList 0 _ hrp hf with ⟨g1, _⟩ | ⟨j, v', e, g1, g2, g3, g4, g5, g6⟩
    · cases g1
    · simp only [Option.some.injEq, Prod.mk.injEq] at g1
      obtain ⟨_, rfl⟩ := g1
      have hfk := MapKept.run_findKey (w := w) hd g4
      cases ok with
      | true =>
        refine ⟨.tuple #[e.val, .bool true], _, ?_, hK, ?_⟩
        · rcases hvm with ⟨rfl, rfl⟩ | ⟨b, clk, rfl, hb⟩
          · simp only [Instr.lookup, Sem.run_bind, run_und ht, Result.andThen_ok, hck, hfk, Sem.run_pure, if_true]
          · simp only [Instr.lookup, Sem.run_bind, run_und ht, Result.andThen_ok, MapKept.run_getObj_map hb, hck, hfk, Sem.run_pure, if_true]
        · refine .tuple _ _ rfl fun j c u hc hu => ?_
          match j with
          | 0 => simp at hc hu; subst hc hu; exact g6
          | 1 => simp at hc hu; subst hc hu; exact .bool _
          | j + 2 => simp at hc
      | false =>
        refine ⟨e.val, _, ?_, hK, g6⟩
        rcases hvm with ⟨rfl, rfl⟩ | ⟨b, clk, rfl, hb⟩
        · simp only [Instr.lookup, Sem.run_bind, run_und ht, Result.andThen_ok, hck, hfk, Sem.run_pure, Bool.false_eq_true, if_false]
        · simp only [Instr.lookup, Sem.run_bind, run_und ht, Result.andThen_ok, MapKept.run_getObj_map hb, hck, hfk, Sem.run_pure, Bool.false_eq_true, if_false]
  · rename_i hf
    obtain ⟨hz, hK⟩ := hK
    rcases findV_spec hk es ms.toList 0 _ hrp hf with ⟨_, g2⟩ | ⟨j, v', e, g1, _⟩
    · have hfk := MapKept.run_findKey (w := w) hd g2
      obtain ⟨i, z, hi, hz'⟩ := zeroOK_spec (E := E) (t := et) hz
      have hzv : RV E.P G arr (zeroVP E.P et) z := by
        unfold zeroVP; rw [hi]; simp only [hz']; exact RV.ofV z
      have hzr := run_zeroValue (w := w) hi hz'
      cases ok with
      | true =>
        refine ⟨.tuple #[z, .bool false], _, ?_, hK, ?_⟩
        · rcases hvm with ⟨rfl, rfl⟩ | ⟨b, clk, rfl, hb⟩
          · simp only [Instr.lookup, Sem.run_bind, run_und ht, Result.andThen_ok, hck, hfk, Sem.run_pure, if_true, hzr]
          · simp only [Instr.lookup, Sem.run_bind, run_und ht, Result.andThen_ok, MapKept.run_getObj_map hb, hck, hfk, Sem.run_pure, if_true, hzr]
        · refine .tuple _ _ rfl fun j c u hc hu => ?_
          match j with
          | 0 => simp at hc hu; subst hc hu; exact hzv
          | 1 => simp at hc hu; subst hc hu; exact .bool _
          | j + 2 => simp at hc
      | false =>
        refine ⟨z, _, ?_, hK, hzv⟩
        rcases hvm with ⟨rfl, rfl⟩ | ⟨b, clk, rfl, hb⟩
        · simp only [Instr.lookup, Sem.run_bind, run_und ht, Result.andThen_ok, hck, hfk, Sem.run_pure, Bool.false_eq_true, if_false, hzr]
        · simp only [Instr.lookup, Sem.run_bind, run_und ht, Result.andThen_ok, MapKept.run_getObj_map hb, hck, hfk, Sem.run_pure, Bool.false_eq_true, if_false, hzr]
    · cases g1
  · exact hK.elim

def vMapSet (E : Env) (heap : List VObj) (t : TypeId) (m k v : V) (K : List VObj → Prop) : Prop :=
  match E.P.underlying t, m with
  | some (.map kt _), .map id => match heap[id]?, E.P.underlying kt with
    | some (.map es), some d => keyV d k = true ∧ match findV d k es 0 with
      | some (some (j, _)) => K (heap.set id (.map (es.set j (k, v))))
      | some none => K (heap.set id (.map (es ++ [(k, v)])))
      | none => False
    | _, _ => False
  | _, _ => False

theorem mapSet_out {E : Env} {G : Gh} {heap : List VObj} {arr : List Nat} {w0 : Base} {w : World} (h : RelW E G heap arr w0 w) {t : TypeId} {m k x : V} {vm vk vx : Value} {K : List VObj → Prop} (hm : RV E.P G arr m vm) (hk : RV E.P G arr k vk)
    (hx : RV E.P G arr x vx) (hK : vMapSet E heap t m k x K) : ∃ w' heap', (Instr.mapUpdate t vm vk vx).run E.P w = .ok () w' ∧ K heap' ∧ RelW E G heap' arr w0 w' := by
  unfold vMapSet at hK
  split at hK
  case h_2 => exact hK.elim
  rename_i kt et id ht
  split at hK
  case h_2 => exact hK.elim
  rename_i es d hh hd
  obtain ⟨hkey, hK⟩ := hK
  have hik := keyV_spec hk hkey
  cases hm with
  | map _ b hb =>
    obtain ⟨b', hb', ms, clk, g1, g2, g3⟩ := h.obj id _ hh
    rw [hb] at hb'; cases hb'
    have hrp : RP E.P G arr es ms.toList := ⟨by simpa using g2, fun j kx vx hj => by
      obtain ⟨e, q1, q2⟩ := g3 j kx vx hj
      exact ⟨e, by simpa using q1, q2⟩⟩
    have hck := MapKept.run_checkKey (w := w) hd hik false 9999
    have hidl := (List.getElem?_eq_some_iff.1 hh).1
    have hbl : b < w.heap.size := (Array.getElem?_eq_some_iff.1 g1).1
    have go : ∀ (ms' : Array MapEntry) (clk' : Nat) (es' : List (V × V)), RP E.P G arr es' ms'.toList → RelW E G (heap.set id (.map es')) arr w0 { w with heap := w.heap.setIfInBounds b (.map ms' clk') } := by
      intro ms' clk' es' hp
      refine h.change hb hidl (by rw [hh]; simp) rfl rfl rfl (by simp) (fun k hk => by simp [Array.getElem?_setIfInBounds_ne (Ne.symm hk)]) ⟨ms', clk', by simp [hbl], by simpa using hp.1, fun j kx vx hj => ?_⟩
      obtain ⟨e, q1, q2⟩ := hp.2 j kx vx hj
      exact ⟨e, by simpa using q1, q2⟩
    split at hK
    · rename_i j v hf
      rcases findV_spec hk es ms.toList 0 _ hrp hf with ⟨q1, _⟩ | ⟨j', v', e, q1, q2, q3, q4, q5, q6⟩
      · cases q1
      · simp only [Option.some.injEq, Prod.mk.injEq, Nat.zero_add] at q1
        obtain ⟨rfl, rfl⟩ := q1
        have hj : ms[j]? = some e := by simpa using q2
        have hfk := MapKept.run_findKey (w := w) hd q4
        have hkeep := MapKept.run_keyThatStays (P := E.P) (w := w) hik
        refine ⟨_, _, ?_, hK, go (ms.modify j fun e => { e with key := vk, val := vx }) clk _ ⟨by simp [hrp.1], fun i kx ux hi => ?_⟩⟩
        · simp only [Nat.zero_add] at hfk
          simp only [Instr.mapUpdate, Sem.run_bind, run_und ht, Result.andThen_ok, MapKept.run_getObj_map g1, hck, hfk, hj, Option.map_some, Option.getD_some, q5, hkeep, MapKept.run_setObj_map _ g1]
        · by_cases hij : i = j
          · subst hij
            have hjl : i < es.length := by
              rcases Nat.lt_or_ge i es.length with h' | h'
              · exact h'
              · rw [List.getElem?_eq_none (by simpa using h')] at hi; cases hi
            rw [List.getElem?_set_self hjl] at hi
            cases hi
            exact ⟨{ e with key := vk, val := vx }, by simp [hj], hk, hx⟩
          · rw [List.getElem?_set_ne (Ne.symm hij)] at hi
            obtain ⟨e2, r1, r2⟩ := hrp.2 i kx ux hi
            refine ⟨e2, ?_, r2⟩
            simp only [Array.getElem?_toList] at r1 ⊢
            rw [Array.getElem?_modify, if_neg (Ne.symm hij)]; exact r1
    · rename_i hf
      rcases findV_spec hk es ms.toList 0 _ hrp hf with ⟨_, q2⟩ | ⟨j', v', e, q1, _⟩
      · have hfk := MapKept.run_findKey (w := w) hd q2
        refine ⟨_, _, ?_, hK, go (ms.push { key := vk, val := vx, born := clk }) (clk + 1) _ ⟨by simp [hrp.1], fun i kx ux hi => ?_⟩⟩
        · simp only [Instr.mapUpdate, Sem.run_bind, run_und ht, Result.andThen_ok, MapKept.run_getObj_map g1, hck, hfk, MapKept.run_setObj_map _ g1]
        · have hl := hrp.1
          simp only [Array.toList_push]
          by_cases hil : i < es.length
          · rw [List.getElem?_append_left hil] at hi
            obtain ⟨e2, r1, r2⟩ := hrp.2 i kx ux hi
            exact ⟨e2, by rw [List.getElem?_append_left (by omega)]; exact r1, r2⟩
          · rw [List.getElem?_append_right (by omega)] at hi
            have hi0 : i - es.length = 0 := by
              rcases Nat.eq_zero_or_pos (i - es.length) with h' | h'
              · exact h'
              · rw [List.getElem?_eq_none (by simp; omega)] at hi; cases hi
            rw [hi0] at hi
            simp at hi
            obtain ⟨rfl, rfl⟩ := hi
            exact ⟨{ key := vk, val := vx, born := clk }, by rw [List.getElem?_append_right (by omega), hl, hi0]; rfl, hk, hx⟩
      · cases q1
    · exact hK.elim

theorem makeMap_out {E : Env} {G : Gh} {heap : List VObj} {arr : List Nat} {w0 : Base} {w : World} (h : RelW E G heap arr w0 w) {t : TypeId} :
    (Instr.makeMap t none).run E.P w = .ok (.map (some w.heap.size)) (w.alloc (.map #[] 0)) ∧ RelW E (G.newObj w.heap.size) (heap ++ [.map []]) arr w0 (w.alloc (.map #[] 0)) ∧ RV E.P (G.newObj w.heap.size) arr (.map heap.length) (.map (some w.heap.size)) := by
  refine ⟨by simp [Instr.makeMap, Result.andThen], h.allocM _ _ ⟨#[], 0, by rw [heap_alloc, if_pos rfl], rfl, by simp⟩, .map _ _ ?_⟩
  simp [Gh.newObj, h.lenφ]

/-! ### Made slices -/
def vMakeSlice (E : Env) (heap : List VObj) (t : TypeId) (l c : V) (K : V → List VObj → Prop) : Prop :=
  match E.P.underlying t, l, c with
  | some (.slice e), .int _ n, .int _ n' => (n = n' ∧ elemOK E.P e = true ∧ 0 ≤ n ∧ n.toNat * E.P.bytesOf e ≤ 140737488355328) ∧
      K (.mslice heap.length 0 n.toNat n.toNat e) (heap ++ [.cells (List.replicate n.toNat (zeroL E e)).flatten])
  | _, _, _ => False

theorem wrap_ok {x : Int} (h : -9223372036854775808 ≤ x) (h' : x ≤ 9223372036854775807) : IntKind.i64.wrap x = x := by
  simp only [IntKind.wrap, IntKind.signed, IntKind.bits]; simp; omega

theorem flat_get {α : Type} (l : List α) (hl : 0 < l.length) : ∀ (n j : Nat) x, (List.replicate n l).flatten[j]? = some x → l[j % l.length]? = some x := by
  intro n
  induction n with
  | zero => intro j x h; simp at h
  | succ n ih =>
    intro j x h
    simp only [List.replicate_succ, List.flatten_cons] at h
    by_cases hj : j < l.length
    · rw [List.getElem?_append_left hj] at h
      rw [Nat.mod_eq_of_lt hj]; exact h
    · rw [List.getElem?_append_right (by omega)] at h
      rw [Nat.mod_eq_sub_mod (by omega)]
      exact ih _ _ h

theorem askR {P : Program} {n : Nat} {w : World} : (askRoom n).run P w = .ok () w := by unfold askRoom; split <;> rfl

theorem makeSlice_out {E : Env} {G : Gh} {heap : List VObj} {arr : List Nat} {w0 : Base} {w : World} (h : RelW E G heap arr w0 w) {t : TypeId} {l c : V} {vl vc : Value} {K : V → List VObj → Prop} (hl : RV E.P G arr l vl) (hc : RV E.P G arr c vc)
    (hK : vMakeSlice E heap t l c K) : ∃ u y heap' G' w', (Instr.makeSlice t vl vc).run E.P w = .ok u w' ∧ K y heap' ∧ Ext G arr G' arr ∧ RelW E G' heap' arr w0 w' ∧ RV E.P G' arr y u := by
  unfold vMakeSlice at hK
  split at hK
  case h_2 => exact hK.elim
  rename_i e k1 n k2 n' ht
  obtain ⟨⟨rfl, hok, h0, hb⟩, hK⟩ := hK
  cases hl; cases hc
  obtain ⟨i, z, hi, hz, hz1, hzs, his, hib, hs1, hb1, hb2⟩ := elemOK_spec hok
  have hzl := zeroL_rel (G := G) (arr := arr) (E := E) hi hz
  have hzl0 : (zeroL E e).length = E.P.cellsOf e := by rw [← hzl.1]; exact hzs
  have hn47 : n.toNat ≤ 140737488355328 := Nat.le_trans (Nat.le_mul_of_pos_right _ hb1) hb
  have hw : IntKind.i64.wrap n = n := wrap_ok (by omega) (by omega)
  have hnot : ¬ ((2 : Int) ^ 48 < (i.bytes : Int) * n) := by
    rw [hib]
    have h1 : ((n.toNat : Int)) = n := by omega
    have h2 : ((n.toNat * E.P.bytesOf e : Nat) : Int) = (E.P.bytesOf e : Int) * n := by rw [Int.natCast_mul, h1, Int.mul_comm]
    rw [← h2]
    have h48 : (2 : Int) ^ 48 = 281474976710656 := by decide
    rw [h48]
    generalize n.toNat * E.P.bytesOf e = q at hb
    omega
  let cells := (Array.range (n.toNat * E.P.cellsOf e)).map (z.cells[· % z.cells.size]!)
  refine ⟨.slice (some ⟨w.heap.size, 0, none⟩) n.toNat n.toNat, _, _, G.newObj w.heap.size, w.alloc (.cells cells e), ?_, hK, G.ext_newObj _ _, h.allocM _ _ ⟨cells, e, by rw [heap_alloc, if_pos rfl], ?_, fun j x hj => ?_⟩, .mslice _ _ _ _ _ w.heap.size ?_ hn47 (Nat.le_refl _) hb⟩
  · simp only [Instr.makeSlice, Sem.run_bind, run_und ht, Result.andThen_ok, asInt, asIntOf, Sem.run_pure, run_info hi, hw]
    have hc1 : decide ((2 : Int) ^ 48 < (i.bytes : Int) * n) = false := decide_eq_false hnot
    have hc2 : (decide (n < 0)) = false := by simpa using h0
    simp only [gt_iff_lt, hc1, Bool.false_or, Int.lt_irrefl, decide_false, Bool.or_false, hc2, Bool.false_eq_true, if_false, Sem.run_bind, askR, Result.andThen_ok, run_sizeOf hi]
    by_cases h0' : n.toNat * E.P.cellsOf e = 0
    · simp only [if_pos h0', Sem.run_bind, Sem.run_pure, Result.andThen_ok, newRow, newObj, Sem.run]
      have : cells = (Array.range (n.toNat * E.P.cellsOf e)).map ((#[] : Array Value)[· % (#[] : Array Value).size]!) := by simp only [cells, h0']; simp
      rw [this]; rfl
    · simp only [if_neg h0', Sem.run_bind, run_zeroValue hi hz, Sem.run_pure, Result.andThen_ok, newRow, newObj, Sem.run]
      rfl
  · simp [cells, List.length_flatten, hzl0]
  · have hjl := (List.getElem?_eq_some_iff.1 hj).1
    have hlen : ((List.replicate n.toNat (zeroL E e)).flatten).length = n.toNat * E.P.cellsOf e := by simp [List.length_flatten, hzl0]
    rw [hlen] at hjl
    have hg := flat_get (zeroL E e) (by omega) _ _ _ hj
    rw [hzl0] at hg
    have hm : j % E.P.cellsOf e < z.cells.size := by rw [hzs]; exact Nat.mod_lt _ (by omega)
    refine ⟨z.cells[j % E.P.cellsOf e], ?_, hzl.2 _ x _ hg (Array.getElem?_eq_getElem hm)⟩
    have hm' : j % z.cells.size < z.cells.size := by rw [hzs]; rw [hzs] at hm; exact hm
    simp only [cells, Array.getElem?_map, Array.getElem?_range, hjl, if_true, Option.map_some, Option.some.injEq]
    rw [getElem!_pos z.cells _ hm']
    simp only [hzs]
  · simp [Gh.newObj, h.lenφ]

/-! ### The letters of a string -/
def vNext (heap : List VObj) (x : V) (K : V → List VObj → Prop) : Prop :=
  match x with
  | .ptr id 0 => match heap[id]? with
    | some (.siter s pos) => if pos < s.size then K (.tuple [.bool true, .int .i64 pos, .int .i32 (Utf8.decode s pos).1]) (heap.set id (.siter s (pos + (Utf8.decode s pos).2))) else K (.tuple [.bool false]) heap
    | _ => False
  | _ => False

theorem next_out {E : Env} {G : Gh} {heap : List VObj} {arr : List Nat} {w0 : Base} {w : World} (h : RelW E G heap arr w0 w) {ty : TypeId} {x : V} {vx : Value} {K : V → List VObj → Prop} (hx : RV E.P G arr x vx) (hK : vNext heap x K) :
    ∃ u y heap' w', (Instr.next vx true ty).run E.P w = .ok u w' ∧ K y heap' ∧ RelW E G heap' arr w0 w' ∧ RV E.P G arr y u := by
  unfold vNext at hK
  split at hK
  case h_2 => exact hK.elim
  rename_i id
  split at hK
  case h_2 => exact hK.elim
  rename_i s pos hh
  cases hx with
  | ptr _ _ b hb =>
    obtain ⟨b', hb', g1, g2⟩ := h.obj id _ hh
    rw [hb] at hb'; cases hb'
    have hbl : b < w.heap.size := (Array.getElem?_eq_some_iff.1 g1).1
    have hg : (getObj b).run E.P w = .ok (.stringIter s pos) w := by simp [getObj, Sem.run, g1]
    split at hK
    · rename_i hp
      refine ⟨.tuple #[.bool true, goInt pos, .int .i32 (Utf8.decode s pos).1], _, _, { w with heap := w.heap.setIfInBounds b (.stringIter s (pos + (Utf8.decode s pos).2)) }, ?_, hK, ?_, ?_⟩
      · have hso : (setObj b (.stringIter s (pos + (Utf8.decode s pos).2))).run E.P w = .ok () { w with heap := w.heap.setIfInBounds b (.stringIter s (pos + (Utf8.decode s pos).2)) } := by simp [setObj, Sem.run, g1]
        simp only [Instr.next, Sem.run_bind, hg, Result.andThen_ok, if_pos hp, hso, Sem.run_pure]
      · exact h.change hb (List.getElem?_eq_some_iff.1 hh).1 (by rw [hh]; simp) rfl rfl rfl (by simp) (fun k hk => by simp [Array.getElem?_setIfInBounds_ne (Ne.symm hk)]) ⟨by simp [hbl], g2⟩
      · refine .tuple _ _ rfl fun j c u hc hu => ?_
        match j with
        | 0 => simp at hc hu; subst hc hu; exact .bool _
        | 1 => simp [goInt] at hc hu; subst hc hu; exact .int _ _
        | 2 => simp at hc hu; subst hc hu; exact .int _ _
        | j + 3 => simp at hc
    · rename_i hp
      refine ⟨.tuple #[.bool false], _, _, w, ?_, hK, h, ?_⟩
      · simp only [Instr.next, Sem.run_bind, hg, Result.andThen_ok, if_neg hp, Sem.run_pure]
      · refine .tuple _ _ rfl fun j c u hc hu => ?_
        match j with
        | 0 => simp at hc hu; subst hc hu; exact .bool _
        | j + 1 => simp at hc

def vRange (E : Env) (heap : List VObj) (t : TypeId) (x : V) (K : V → List VObj → Prop) : Prop :=
  match E.P.underlying t, x with
  | some .string, .str s => K (.ptr heap.length 0) (heap ++ [.siter s 0])
  | _, _ => False

theorem range_out {E : Env} {G : Gh} {heap : List VObj} {arr : List Nat} {w0 : Base} {w : World} (h : RelW E G heap arr w0 w) {t : TypeId} {x : V} {vx : Value} {K : V → List VObj → Prop} (hx : RV E.P G arr x vx) (hK : vRange E heap t x K) :
    ∃ u y heap' G' w', (Instr.range t vx).run E.P w = .ok u w' ∧ K y heap' ∧ Ext G arr G' arr ∧ RelW E G' heap' arr w0 w' ∧ RV E.P G' arr y u := by
  unfold vRange at hK
  split at hK
  case h_2 => exact hK.elim
  rename_i s ht
  cases hx with
  | str _ hs =>
    refine ⟨.pointer (some ⟨w.heap.size, 0, none⟩), _, _, G.newObj w.heap.size, w.alloc (.stringIter s 0), ?_, hK, G.ext_newObj _ _, h.allocM _ _ ⟨by rw [heap_alloc, if_pos rfl], hs⟩, .ptr _ _ _ (by simp [Gh.newObj, h.lenφ])⟩
    simp only [Instr.range, Sem.run_bind, run_und ht, Result.andThen_ok, Sem.run_pure, newObj, Sem.run]
    rfl

/-! ### The lesser and the greater of two integers -/
def vMin (x y : V) (K : V → Prop) : Prop :=
  match x, y with
  | .int k a, .int _ b => K (.int k (if b < a then b else a))
  | _, _ => False
def vMax3 (x y z : V) (K : V → Prop) : Prop :=
  match x, y, z with
  | .int k a, .int _ b, .int _ c => K (.int k (if (if a < b then b else a) < c then c else (if a < b then b else a)))
  | _, _, _ => False

def vMax (x y : V) (K : V → Prop) : Prop :=
  match x, y with
  | .int k a, .int _ b => K (.int k (if b > a then b else a))
  | _, _ => False

/-! ### Bytes to a string -/
def intsOf : List (List V) → Option (List Int)
  | [] => some []
  | [.int .u8 n] :: r => (intsOf r).map (n :: ·)
  | _ => none
def strOf (ns : List Int) : ByteArray := ⟨(ns.map fun n => UInt8.ofNat n.toNat).toArray⟩

theorem intsOf_get : ∀ {es : List (List V)} {ns : List Int}, intsOf es = some ns → ns.length = es.length ∧ ∀ (i : Nat) n, ns[i]? = some n → es[i]? = some [.int .u8 n] := by
  intro es
  induction es with
  | nil => intro ns h; simp only [intsOf, Option.some.injEq] at h; subst h; exact ⟨rfl, by simp⟩
  | cons x r ih =>
    intro ns h
    unfold intsOf at h
    split at h
    · rename_i heq; cases heq
    · rename_i n r' heq
      injection heq with h1 h2
      subst h1 h2
      obtain ⟨ms, hms, rfl⟩ := Option.map_eq_some_iff.1 h
      obtain ⟨g1, g2⟩ := ih hms
      refine ⟨by simp [g1], fun i m hi => ?_⟩
      cases i with
      | zero => simp at hi; subst hi; rfl
      | succ i => simpa using g2 i m (by simpa using hi)
    · cases h

theorem fold_push : ∀ (ns : List Int) (s : ByteArray), ns.foldl (fun r n => r.push (UInt8.ofNat n.toNat)) s = ⟨s.data ++ (ns.map fun n => UInt8.ofNat n.toNat).toArray⟩ := by
  intro ns
  induction ns with
  | nil => intro s; simp
  | cons n r ih =>
    intro s
    simp only [List.foldl_cons, ih, List.map_cons]
    congr 1
    show (s.data.push _) ++ _ = _
    apply Array.ext'
    simp

theorem bytes_out {E : Env} {G : Gh} {heap : List VObj} {arr : List Nat} {w0 : Base} {w : World} (h : RelW E G heap arr w0 w) {o : Own} {e : TypeId} {es : List (List V)} {v : Value} {ns : List Int}
    (hv : RV E.P G arr (.slice o e es) v) (he : E.P.cellsOf e = 1) (hn : intsOf es = some ns) : (Conv.bytesToString v).run E.P w = .ok (.string (strOf ns)) w ∧ (strOf ns).size ≤ 1152921504606846976 := by
  obtain ⟨hl, hg⟩ := intsOf_get hn
  obtain ⟨vs, ⟨a, cap, rfl⟩, h2, h3, h4⟩ := elems_read h hv
  have hle : es.length ≤ 140737488355328 := by
    cases hv with
    | snil => simp
    | sodd => simp
    | slice _ _ _ b off cap ho g1 g2 g3 g4 g5 g6 => exact g3
  have hvs : vs = (ns.map (Value.int .u8)).toArray := by
    apply Array.ext_getElem?
    intro i
    by_cases hi : i < ns.length
    · have hes := hg i _ (List.getElem?_eq_getElem hi)
      obtain ⟨u, hu, hr⟩ := h4 i _ 0 _ hes rfl
      rw [he, Nat.mul_one, Nat.add_zero] at hu
      cases hr
      rw [hu]; simp [hi]
    · rw [Array.getElem?_eq_none (by rw [h3, he]; omega), Array.getElem?_eq_none (by simp; omega)]
  refine ⟨?_, by simp [strOf, ByteArray.size]; omega⟩
  cases a with
  | none =>
    have hz : ns = [] := by
      cases hv <;> (simp at hl; exact hl)
    subst hz
    rfl
  | some a =>
    rw [he] at h2
    simp only [Builtin.firstCells, Nat.mul_one] at h2
    rw [hvs] at h2
    rw [run_bytesToString w a es.length cap ns h2, fold_push]
    congr 2
    simp [strOf]

end Go.Vg
set_option linter.unusedVariables false
set_option linter.unusedSimpArgs false
namespace Go.Vg
open Go.RowKit

/-- Whether two structs without structs, of texts, numbers and truth values, are equal. -/
def eq1 : V → V → Option Bool
  | .str a, .str b => some (decide (a = b))
  | .int k a, .int k' b => if k = k' then some (decide (a = b)) else none
  | .bool a, .bool b => some (a == b)
  | _, _ => none
def eqL : List V → List V → Option Bool
  | [], [] => some true
  | x :: r, y :: q => match eq1 x y, eqL r q with
    | some a, some b => some (a && b)
    | _, _ => none
  | _, _ => none
def kindD : Option TypeDesc → Option Nat
  | some .string => some 0
  | some (.int _) => some 1
  | some .bool => some 2
  | _ => none
def kindsF (P : Program) : Nat → List Field → Option (List Nat)
  | _, [] => some []
  | o, f :: fs => if f.name != "_" && decide (f.offset = o) then match kindD (P.underlying f.type), kindsF P (o + 1) fs with
      | some k, some ks => some (k :: ks)
      | _, _ => none
    else none
/-- The kinds of the fields of a struct that is compared field by field. -/
def flatK (P : Program) (t : TypeId) : Option (List Nat) := match P.underlying t with
  | some (.struct fs) => if P.stoodInHeld t || P.eqGuardType P.depth t then none else kindsF P 0 fs.toList
  | _ => none
def fit1 : Nat → V → V → Bool
  | 0, .str _, .str _ => true
  | 1, .int k _, .int k' _ => decide (k = k')
  | 2, .bool _, .bool _ => true
  | _, _, _ => false
def fits : List Nat → List V → List V → Bool
  | [], [], [] => true
  | k :: ks, x :: xs, y :: ys => fit1 k x y && fits ks xs ys
  | _, _, _ => false
theorem run_eq_bool {P : Program} {w : World} {t : TypeId} (a b : Bool) (ht : P.underlying t = some .bool) : (Op.equal t (.bool a) (.bool b)).run P w = .ok (a == b) w := by
  have : ∀ d, (Op.equalIn (d + 1) t (.bool a) (.bool b)).run P w = .ok (a == b) w := fun d => by
    simp only [Op.equalIn, Sem.run_bind, run_und ht, Result.andThen_ok, Sem.run_pure]
  exact this 9999

theorem forIn_eq {P : Program} {w : World} {body : Field → Option Bool × PUnit → Sem (ForInStep (Option Bool × PUnit))} {e : Field → Bool} : ∀ {fs : List Field},
    (∀ f ∈ fs, (body f (none, ())).run P w = .ok (if e f then .yield (none, ()) else .done (some false, ())) w) → (forIn fs (none, ()) body).run P w = .ok (if fs.all e then (none, ()) else (some false, ())) w
  | [], _ => by simp
  | f :: fs, h => by
    have h1 := h f (by simp)
    have ih := forIn_eq (fs := fs) fun g hg => h g (by simp [hg])
    rw [List.forIn_cons, Sem.run_bind, h1]
    cases he : e f
    · simp [he]
    · simp only [if_true, Result.andThen_ok, List.all_cons, he, Bool.true_and]
      exact ih
theorem fit_eq {k : Nat} {x y : V} (h : fit1 k x y = true) : ∃ b, eq1 x y = some b := by
  unfold fit1 at h
  split at h
  · exact ⟨_, rfl⟩
  · have := of_decide_eq_true h
    subst this
    rename_i kk n m
    exact ⟨decide (n = m), by simp [eq1]⟩
  · exact ⟨_, rfl⟩
  · cases h
theorem kinds_get {P : Program} {xs ys : List V} : ∀ (fs : List Field) (o : Nat) (ks : List Nat), kindsF P o fs = some ks → fits ks (xs.drop o) (ys.drop o) = true →
    eqL (xs.drop o) (ys.drop o) = some (fs.all fun f => match xs[f.offset]?, ys[f.offset]? with | some x, some y => (eq1 x y).getD false | _, _ => false) ∧
    ∀ f ∈ fs, f.name ≠ "_" ∧ ∃ x y k, xs[f.offset]? = some x ∧ ys[f.offset]? = some y ∧ kindD (P.underlying f.type) = some k ∧ fit1 k x y = true
  | [], o, ks, h, hf => by
    simp only [kindsF, Option.some.injEq] at h
    subst h
    generalize xs.drop o = xs' at hf ⊢
    generalize ys.drop o = ys' at hf ⊢
    cases xs' <;> cases ys' <;> simp only [fits, Bool.false_eq_true] at hf
    exact ⟨rfl, by simp⟩
  | f :: fs, o, ks, h, hf => by
    simp only [kindsF] at h
    split at h
    case isFalse => cases h
    rename_i hc
    simp only [Bool.and_eq_true, bne_iff_ne, ne_eq, decide_eq_true_eq] at hc
    obtain ⟨hn, ho⟩ := hc
    split at h
    case h_2 => cases h
    rename_i k ks' hk hks
    simp only [Option.some.injEq] at h
    subst h
    cases hx : xs.drop o with
    | nil => rw [hx] at hf; simp [fits] at hf
    | cons x xr =>
      cases hy : ys.drop o with
      | nil => rw [hx, hy] at hf; simp [fits] at hf
      | cons y yr =>
        rw [hx, hy] at hf
        simp only [fits, Bool.and_eq_true] at hf
        have hxr : xs.drop (o + 1) = xr := by rw [← List.drop_drop, hx]; rfl
        have hyr : ys.drop (o + 1) = yr := by rw [← List.drop_drop, hy]; rfl
        have hx0 : xs[o]? = some x := by have : (xs.drop o)[0]? = some x := by rw [hx]; rfl
                                         simpa using this
        have hy0 : ys[o]? = some y := by have : (ys.drop o)[0]? = some y := by rw [hy]; rfl
                                         simpa using this
        obtain ⟨g1, g2⟩ := kinds_get (xs := xs) (ys := ys) fs (o + 1) ks' hks (by rw [hxr, hyr]; exact hf.2)
        rw [hxr, hyr] at g1
        have heq := fit_eq hf.1
        obtain ⟨b, hb⟩ := heq
        refine ⟨?_, fun g hg => ?_⟩
        · simp only [eqL, hb, g1, List.all_cons, ho, hx0, hy0, Option.getD_some]
        · rcases List.mem_cons.1 hg with rfl | hg
          · exact ⟨hn, x, y, k, by rw [ho]; exact hx0, by rw [ho]; exact hy0, hk, hf.1⟩
          · exact g2 g hg

theorem run_eq_bool1 {P : Program} {w : World} {t : TypeId} (a b : Bool) (ht : P.underlying t = some .bool) (d : Nat) : (Op.equalIn (d + 1) t (.bool a) (.bool b)).run P w = .ok (a == b) w := by
  simp only [Op.equalIn, Sem.run_bind, run_und ht, Result.andThen_ok, Sem.run_pure]
theorem eq1_run {P : Program} {G : Gh} {arr : List Nat} {w : World} {t : TypeId} {x y : V} {vx vy : Value} {k : Nat} (hx : RV P G arr x vx) (hy : RV P G arr y vy) (ht : kindD (P.underlying t) = some k) (hk : fit1 k x y = true) (d : Nat) :
    ∃ b, eq1 x y = some b ∧ (Op.equalIn (d + 1) t vx vy).run P w = .ok b w := by
  unfold kindD at ht
  split at ht
  · rename_i hu
    cases ht
    cases x <;> cases y <;> simp only [fit1, Bool.false_eq_true] at hk
    cases hx; cases hy
    rename_i a b _ _
    refine ⟨decide (a = b), rfl, ?_⟩
    simp only [Op.equalIn, Sem.run_bind, run_und hu, Result.andThen_ok, Sem.run_pure]
    congr 1
    rw [Bool.eq_iff_iff]
    obtain ⟨a⟩ := a
    obtain ⟨b⟩ := b
    show ((a == b) = true) ↔ _
    simp
  · rename_i k' hu
    cases ht
    cases x <;> cases y <;> simp only [fit1, Bool.false_eq_true] at hk
    cases hx; cases hy
    have hk := of_decide_eq_true hk
    subst hk
    rename_i kk a b
    refine ⟨decide (a = b), by simp [eq1], ?_⟩
    simp only [Op.equalIn, Sem.run_bind, run_und hu, Result.andThen_ok, Sem.run_pure, if_true]
    congr 1
  · rename_i hu
    cases ht
    cases x <;> cases y <;> simp only [fit1, Bool.false_eq_true] at hk
    cases hx; cases hy
    exact ⟨_, rfl, run_eq_bool1 _ _ hu d⟩
  · cases ht

theorem flat_of {P : Program} {t : TypeId} {ks : List Nat} (hks : flatK P t = some ks) : ∃ fs, P.underlying t = some (.struct fs) ∧ P.stoodInHeld t = false ∧ P.eqGuardType P.depth t = false ∧ kindsF P 0 fs.toList = some ks := by
  unfold flatK at hks
  split at hks
  case h_2 => cases hks
  rename_i fs hu
  split at hks
  · cases hks
  rename_i hst
  simp only [Bool.or_eq_true, not_or, Bool.not_eq_true] at hst
  exact ⟨fs, hu, hst.1, hst.2, hks⟩
theorem eq_flat {P : Program} {G : Gh} {arr : List Nat} {w : World} {t : TypeId} {xs ys : List V} {vxs vys : Array Value} {ks : List Nat} (hks : flatK P t = some ks) (h1 : fits ks xs ys = true) (hx : RV P G arr (.agg xs) (.agg vxs)) (hy : RV P G arr (.agg ys) (.agg vys)) :
    ∃ b, eqL xs ys = some b ∧ (Op.equal t (.agg vxs) (.agg vys)).run P w = .ok b w := by
  obtain ⟨fs, hu, hst, hks⟩ : ∃ fs, P.underlying t = some (.struct fs) ∧ (P.stoodInHeld t = false ∧ P.eqGuardType P.depth t = false) ∧ kindsF P 0 fs.toList = some ks := by
    obtain ⟨fs, a, b, c, d⟩ := flat_of hks
    exact ⟨fs, a, ⟨b, c⟩, d⟩
  have hprog : (program : Sem Program).run P w = .ok P w := rfl
  cases hx with
  | agg _ vxs hlx hrx =>
  cases hy with
  | agg _ vys hly hry =>
  have : ∀ d : Nat, ∃ b, eqL xs ys = some b ∧ (Op.equalIn (d + 1 + 1) t (.agg vxs) (.agg vys)).run P w = .ok b w := by
    intro d
    obtain ⟨q1, q2⟩ := kinds_get (xs := xs) (ys := ys) fs.toList 0 ks hks h1
    refine ⟨_, q1, ?_⟩
    rw [Op.equalIn]
    simp only [Sem.run_bind, run_und hu, Result.andThen_ok, hprog, hst.1, Bool.false_eq_true, if_false]
    rw [← Array.forIn_toList, forIn_eq (e := fun f => match xs[f.offset]?, ys[f.offset]? with | some x, some y => (eq1 x y).getD false | _, _ => false) (fun f hf => ?_)]
    · simp only [Result.andThen_ok, List.drop_zero]
      generalize (fs.toList.all _) = q
      cases q <;> rfl
    · obtain ⟨hn, x, y, k, hx, hy, hk, hfit⟩ := q2 f hf
      have hlx' : f.offset < vxs.size := by rw [← hlx]; exact (List.getElem?_eq_some_iff.1 hx).1
      have hly' : f.offset < vys.size := by rw [← hly]; exact (List.getElem?_eq_some_iff.1 hy).1
      obtain ⟨b, hb, hrun⟩ := eq1_run (w := w) (hrx _ _ _ hx (Array.getElem?_eq_getElem hlx')) (hry _ _ _ hy (Array.getElem?_eq_getElem hly')) hk hfit d
      obtain ⟨dd, hdd, hag⟩ : ∃ dd, P.underlying f.type = some dd ∧ aggB dd = false := by
        unfold kindD at hk
        split at hk
        · rename_i e; exact ⟨_, e, rfl⟩
        · rename_i e; exact ⟨_, e, rfl⟩
        · rename_i e; exact ⟨_, e, rfl⟩
        · cases hk
      have hp : ∀ (vs : Array Value) (hl : f.offset < vs.size), (part f.type vs f.offset).run P w = .ok vs[f.offset] w := fun vs hl => by
        simp only [part, Sem.run_bind, run_isAgg hdd, hag, Result.andThen_ok, Bool.false_eq_true, if_false, Array.getElem?_eq_getElem hl, Sem.run_pure]
      simp only [ne_eq, hn, not_false_eq_true, if_true, Sem.run_bind, hp vxs hlx', hp vys hly', Result.andThen_ok, hrun, hx, hy, hb, Option.getD_some]
      cases b <;> simp
  exact this 9998
/-- A new frozen row, by what the new world says. -/
theorem RelW.belowF {E : Env} {G : Gh} {heap : List VObj} {arr : List Nat} {w0 : Base} {w w' : World} (h : RelW E G heap arr w0 w) (hb : Below w.heap.size w w') (c : Array Value) (h1 : ∀ (j : Nat) v, c[j]? = some v → v.oneCell' = true)
    (hc : ∀ (j : Nat) v, c[j]? = some v → w'.cell? ⟨w.heap.size, j, none⟩ = some v) : RelW E (G.freezeNew w.heap.size c) heap arr w0 w' := by
  have hs := hb.size
  have hx := h.extF c
  refine ⟨fun b o v hv hlt => h.newF b o v (by
      simp only [Gh.freezeNew] at hv
      rwa [if_neg (by have := h.below.size; omega)] at hv) hlt, fun g cs hg => ⟨(h.glob g cs hg).1, (h.glob g cs hg).2.mono hx⟩, h.below.trans (hb.mono h.below.size), ?_, fun b o v hv => by
      simp only [Gh.freezeNew] at hv
      split at hv
      · exact h1 _ _ hv
      · exact h.one _ _ _ hv, ?_, h.lenφ, h.nod, ?_, ?_, h.lenρ, ?_, h.regd, h.fre, h.bldA hb.block fun g hg ⟨s1, s2, s3⟩ => ⟨fun o => by
        simp only [Gh.freezeNew]; rw [if_neg (by omega)]; exact s1 o, s2, s3⟩, h.ini, h.vsK hx (fun _ _ _ _ _ h => h) (fun _ _ h _ => h) hb.block⟩
  · intro b o v hv
    simp only [Gh.freezeNew] at hv
    by_cases eb : b = w.heap.size
    · rw [if_pos eb] at hv; subst eb; exact hc _ _ hv
    · rw [if_neg eb] at hv
      have hcc := h.frz _ _ _ hv
      have hlt : b < w.heap.size := by
        rcases Nat.lt_or_ge b w.heap.size with h' | h'
        · exact h'
        · simp [World.cell?, Array.getElem?_eq_none h'] at hcc
      rw [hb.cell (p := ⟨b, o, none⟩) hlt]; exact hcc
  · intro id ob hid
    obtain ⟨b, hb', hr⟩ := h.obj id ob hid
    exact ⟨b, hb', hr.keep hx (hb.block b (h.geφ id b hb').2)⟩
  · intro id b o hb' hd
    simp only [Gh.freezeNew]
    rw [if_neg (by have := (h.geφ id b hb').2; omega)]
    exact h.sep id b o hb' hd
  · intro id b hb'
    obtain ⟨g1, g2⟩ := h.geφ id b hb'
    exact ⟨g1, by omega⟩
  · intro k b lo hi hk hlt
    obtain ⟨⟨c', e', r0, r1⟩, r2, r3, r4⟩ := h.reg k b lo hi hk hlt
    have hlt' : b < w.heap.size := (Array.getElem?_eq_some_iff.1 r0).1
    refine ⟨⟨c', e', by rw [hb.block b hlt']; exact r0, r1⟩, r2, fun o ho1 ho2 => ?_, r4⟩
    simp only [Gh.freezeNew]
    rw [if_neg (by omega)]
    exact r3 o ho1 ho2

theorem conv_out {E : Env} {G : Gh} {heap : List VObj} {arr : List Nat} {w0 : Base} {w : World} (h : RelW E G heap arr w0 w) {src dst e : TypeId} {s : ByteArray} {u : TypeDesc}
    (hs : E.P.underlying src = some u) (hd : E.P.underlying dst = some (.slice e)) (he : E.P.underlying e = some (.int .u8)) (h1 : E.P.cellsOf e = 1) (h2 : E.P.bytesOf e = 1) (h3 : s.size ≤ 140737488355328) :
    ∃ v w' G', (convert src dst (.string s)).run E.P w = .ok v w' ∧ Ext G arr G' arr ∧ RelW E G' heap arr w0 w' ∧ RV E.P G' arr (sl e (bytesV s)) v := by
  have hl : (bytesV s).length = s.size := by simp [bytesV]
  have hget : ∀ (i : Nat) el, (bytesV s)[i]? = some el → ∃ y : UInt8, s.data[i]? = some y ∧ el = [.int .u8 y.toNat] := fun i el hi => by
    unfold bytesV at hi
    rw [List.getElem?_map] at hi
    obtain ⟨y, hy, rfl⟩ := Option.map_eq_some_iff.1 hi
    exact ⟨y, by simpa using hy, rfl⟩
  have hcap : s.size ≤ grownCap w s.size 0 e := by
    exact grownCap_ge _ _ _ _
  have hv : RV E.P (G.freezeNew w.heap.size (s.data.map fun b => Value.int .u8 b.toNat)) arr (.slice .shared e (bytesV s)) (.slice (some ⟨w.heap.size, 0, none⟩) (bytesV s).length (grownCap w s.size 0 e)) := by
    refine RV.ofCells (o := .shared) trivial (fun i el hi => ?_) ?_ (by omega) (by omega) fun i el j c hi hj => ?_
    · obtain ⟨y, _, rfl⟩ := hget i el hi
      rw [h1]; rfl
    · rw [hl, h2]; omega
    · obtain ⟨y, hy, rfl⟩ := hget i el hi
      match j with
      | 0 =>
        simp at hj; subst hj
        refine ⟨.int .u8 y.toNat, ?_, .int _ _⟩
        simp only [Gh.freezeNew, if_true, h1, Nat.mul_one, Nat.add_zero, Nat.zero_add, Array.getElem?_map, hy, Option.map_some]
      | j + 1 => simp at hj
  rw [hl] at hv
  refine ⟨_, _, G.freezeNew w.heap.size (s.data.map fun b => Value.int .u8 b.toNat), Lib.run_convert_string_bytes w src dst e s hs hd he, h.extF _, h.belowF (w' := Lib.bytesWorld w e s) ⟨rfl, rfl, rfl, ?_, fun k hk => Lib.bytesWorld_at_old w e s k hk⟩ _ (fun j v hv => ?_) (fun j v hv => ?_), RV.sl hv⟩
  · rw [Lib.bytesWorld_size]; omega
  · simp only [Array.getElem?_map] at hv
    obtain ⟨y, _, rfl⟩ := Option.map_eq_some_iff.1 hv
    rfl
  · simp only [Array.getElem?_map] at hv
    obtain ⟨y, hy, rfl⟩ := Option.map_eq_some_iff.1 hv
    have hj : j < s.size := by
      have := (Array.getElem?_eq_some_iff.1 hy).1; exact this
    rw [Lib.bytesWorld_cell w e s j hj]
    simp [List.getD, hy]

end Go.Vg
set_option linter.unusedVariables false
set_option linter.unusedSimpArgs false
namespace Go.Vg
open Go.RowKit

def findA (ks : List Nat) (xs : List V) : List (V × V) → Nat → Option (Option (Nat × V))
  | [], _ => some none
  | (.agg ys, v) :: r, i => if fits ks xs ys then match eqL xs ys with
      | some true => some (some (i, v))
      | some false => findA ks xs r (i + 1)
      | none => none
    else none
  | _ :: _, _ => none

theorem eq1_same {x y : V} (h : eq1 x y = some true) : x = y := by
  unfold eq1 at h
  split at h
  · simp at h; rw [h]
  · split at h
    · rename_i e; simp at h; rw [e, h]
    · cases h
  · simp at h; rw [h]
  · cases h
theorem eqL_same : ∀ {xs ys : List V}, eqL xs ys = some true → xs = ys
  | [], [], _ => rfl
  | [], _ :: _, h => by simp [eqL] at h
  | _ :: _, [], h => by simp [eqL] at h
  | x :: xs, y :: ys, h => by
    simp only [eqL] at h
    split at h
    · rename_i a b ha hb
      simp only [Option.some.injEq, Bool.and_eq_true] at h
      obtain ⟨rfl, rfl⟩ := h
      rw [eq1_same ha, eqL_same hb]
    · cases h
/-- A value that a text, a number or a truth value tells whole. -/
def basic : Value → Bool
  | .string _ | .int _ _ | .bool _ => true
  | _ => false
theorem fit_det {P : Program} {G : Gh} {arr : List Nat} {k : Nat} {x y : V} {u v : Value} (h : fit1 k x y = true) (hu : RV P G arr x u) (hv : RV P G arr x v) : u = v ∧ basic u = true := by
  unfold fit1 at h
  split at h
  · cases hu; cases hv; exact ⟨rfl, rfl⟩
  · cases hu; cases hv; exact ⟨rfl, rfl⟩
  · cases hu; cases hv; exact ⟨rfl, rfl⟩
  · cases h
theorem fits_get : ∀ {ks : List Nat} {xs ys : List V}, fits ks xs ys = true → ∀ (j : Nat) x, xs[j]? = some x → ∃ k y, fit1 k x y = true
  | [], [], [], _, j, x, hx => by simp at hx
  | k :: ks, a :: xs, b :: ys, h, j, x, hx => by
    simp only [fits, Bool.and_eq_true] at h
    match j with
    | 0 => simp at hx; subst hx; exact ⟨k, b, h.1⟩
    | j + 1 => exact fits_get h.2 j x (by simpa using hx)
  | [], _ :: _, _, h, _, _, _ => by simp [fits] at h
  | [], [], _ :: _, h, _, _, _ => by simp [fits] at h
  | _ :: _, [], _, h, _, _, _ => by simp [fits] at h
  | _ :: _, _ :: _, [], h, _, _, _ => by simp [fits] at h
theorem fits_det {P : Program} {G : Gh} {arr : List Nat} {ks : List Nat} {xs ys : List V} {us vs : Array Value} (h : fits ks xs ys = true) (hu : RV P G arr (.agg xs) (.agg us)) (hv : RV P G arr (.agg xs) (.agg vs)) : us = vs ∧ ∀ (j : Nat) u, us[j]? = some u → basic u = true := by
  cases hu with
  | agg _ _ hlu hru =>
  cases hv with
  | agg _ _ hlv hrv =>
  have key : ∀ (j : Nat) u, us[j]? = some u → vs[j]? = some u ∧ basic u = true := fun j u hj => by
    have hjl := (Array.getElem?_eq_some_iff.1 hj).1
    have hxl : j < xs.length := by omega
    have hvl : j < vs.size := by omega
    obtain ⟨k, y, hf⟩ := fits_get h j _ (List.getElem?_eq_getElem hxl)
    obtain ⟨e, hb⟩ := fit_det hf (hru j _ _ (List.getElem?_eq_getElem hxl) hj) (hrv j _ _ (List.getElem?_eq_getElem hxl) (Array.getElem?_eq_getElem hvl))
    exact ⟨by rw [Array.getElem?_eq_getElem hvl, e], hb⟩
  refine ⟨?_, fun j u hj => (key j u hj).2⟩
  apply Array.ext
  · omega
  · intro i h1 h2
    have := (key i _ (Array.getElem?_eq_getElem h1)).1
    rw [Array.getElem?_eq_getElem h2] at this
    simpa using this.symm

theorem part_flat {P : Program} {w : World} {f : Field} {vs : Array Value} (hl : f.offset < vs.size) {k : Nat} (hk : kindD (P.underlying f.type) = some k) : (part f.type vs f.offset).run P w = .ok vs[f.offset] w := by
  obtain ⟨dd, hdd, hag⟩ : ∃ dd, P.underlying f.type = some dd ∧ aggB dd = false := by
    unfold kindD at hk
    split at hk
    · rename_i e; exact ⟨_, e, rfl⟩
    · rename_i e; exact ⟨_, e, rfl⟩
    · rename_i e; exact ⟨_, e, rfl⟩
    · cases hk
  simp only [part, Sem.run_bind, run_isAgg hdd, hag, Result.andThen_ok, Bool.false_eq_true, if_false, Array.getElem?_eq_getElem hl, Sem.run_pure]

theorem forIn_ok {P : Program} {w : World} {body : Field → PUnit → Sem (ForInStep PUnit)} : ∀ {fs : List Field}, (∀ f ∈ fs, (body f ()).run P w = .ok (.yield ()) w) → (forIn fs () body).run P w = .ok () w
  | [], _ => by simp
  | f :: fs, h => by
    rw [List.forIn_cons, Sem.run_bind, h f (by simp)]
    exact forIn_ok fun g hg => h g (by simp [hg])

theorem run_checkKeyA {P : Program} {G : Gh} {arr : List Nat} {w : World} {t : TypeId} {xs : List V} {us : Array Value} {ks : List Nat} (hks : flatK P t = some ks) (h1 : fits ks xs xs = true) (hx : RV P G arr (.agg xs) (.agg us)) (em : Bool) :
    (Instr.checkKey em 10000 t (.agg us)).run P w = .ok () w := by
  obtain ⟨fs, hu, -, -, hks⟩ := flat_of hks
  obtain ⟨-, q2⟩ := kinds_get (xs := xs) (ys := xs) fs.toList 0 ks hks h1
  cases hx with
  | agg _ _ hl hr =>
  have : ∀ d : Nat, (Instr.checkKey em (d + 1 + 1) t (.agg us)).run P w = .ok () w := fun d => by
    rw [Instr.checkKey]
    simp only [Sem.run_bind, run_und hu, Result.andThen_ok]
    rw [← Array.forIn_toList]
    rw [forIn_ok fun f hf => ?_]
    · rfl
    obtain ⟨hn, x, y, k, hxx, _, hk, hfit⟩ := q2 f hf
    have hlx : f.offset < us.size := by rw [← hl]; exact (List.getElem?_eq_some_iff.1 hxx).1
    have hchk : (Instr.checkKey em (d + 1) f.type us[f.offset]).run P w = .ok () w := by
      rw [Instr.checkKey]
      unfold kindD at hk
      split at hk
      · rename_i e; simp only [Sem.run_bind, run_und e, Result.andThen_ok, Sem.run_pure]
      · rename_i e; simp only [Sem.run_bind, run_und e, Result.andThen_ok, Sem.run_pure]
      · rename_i e; simp only [Sem.run_bind, run_und e, Result.andThen_ok, Sem.run_pure]
      · cases hk
    simp only [ne_eq, hn, not_false_eq_true, if_true, Sem.run_bind, part_flat hlx hk, Result.andThen_ok, hchk, Sem.run_pure]
  exact this 9998

theorem findAskingA {P : Program} {G : Gh} {arr : List Nat} {w : World} {t : TypeId} {xs : List V} {us : Array Value} {ks : List Nat} (hks : flatK P t = some ks) (hx : RV P G arr (.agg xs) (.agg us)) : ∀ (es : List (V × V)) (m : List MapEntry) (i : Nat) r, RP P G arr es m → findA ks xs es i = some r →
    (r = none ∧ (Instr.findAsking t (.agg us) m i).run P w = .ok none w) ∨ ∃ j v e, r = some (i + j, v) ∧ m[j]? = some e ∧ es[j]?.map (·.2) = some v ∧ (Instr.findAsking t (.agg us) m i).run P w = .ok (some (i + j, e.val)) w ∧ e.key = .agg us ∧ RV P G arr v e.val := by
  intro es
  induction es with
  | nil =>
    intro m i r hp h
    have : m = [] := List.eq_nil_of_length_eq_zero hp.1
    subst this
    simp only [findA, Option.some.injEq] at h
    subst h
    exact .inl ⟨rfl, rfl⟩
  | cons p es ih =>
    obtain ⟨k', v⟩ := p
    intro m i r hp h
    cases m with
    | nil => have := hp.1; simp at this
    | cons e m =>
      obtain ⟨e', he', h1, h2⟩ := hp.2 0 k' v rfl
      simp at he'
      subst he'
      obtain ⟨ys, rfl⟩ : ∃ ys, k' = .agg ys := by
        cases k' <;> first | exact ⟨_, rfl⟩ | (simp [findA] at h)
      simp only [findA] at h
      split at h
      case isFalse => cases h
      rename_i hfit
      obtain ⟨vys, hvys⟩ : ∃ vys, e.key = .agg vys := by
        generalize e.key = kk at h1
        cases h1; exact ⟨_, rfl⟩
      rw [hvys] at h1
      obtain ⟨b, hb, hrun⟩ := eq_flat (w := w) hks hfit hx h1
      rw [hb] at h
      cases b with
      | true =>
        simp only [Option.some.injEq] at h
        subst h
        have e1 := eqL_same hb
        subst e1
        refine .inr ⟨0, v, e, rfl, rfl, rfl, ?_, ?_, h2⟩
        · simp only [Instr.findAsking, hvys, Sem.run_bind, hrun, Result.andThen_ok, if_true, Sem.run_pure, Nat.add_zero]
        · rw [hvys, (fits_det hfit hx h1).1]
      | false =>
        simp only at h
        rcases ih m (i + 1) r ⟨by have := hp.1; simpa using this, fun j kx vx hj => by
          obtain ⟨e2, g1, g2⟩ := hp.2 (j + 1) kx vx (by simpa using hj)
          exact ⟨e2, by simpa using g1, g2⟩⟩ h with ⟨g1, g2⟩ | ⟨j, u, e2, g1, g2, g3, g4, g5, g6⟩
        · exact .inl ⟨g1, by simp only [Instr.findAsking, hvys, Sem.run_bind, hrun, Result.andThen_ok, Bool.false_eq_true, if_false, g2]⟩
        · refine .inr ⟨j + 1, u, e2, by rw [g1]; congr 2; omega, by simpa using g2, by simpa using g3, ?_, g5, g6⟩
          simp only [Instr.findAsking, hvys, Sem.run_bind, hrun, Result.andThen_ok, Bool.false_eq_true, if_false, g4]
          congr 3; omega

theorem run_findKeyA {P : Program} {G : Gh} {arr : List Nat} {w : World} {t : TypeId} {xs : List V} {us : Array Value} {ks : List Nat} (hks : flatK P t = some ks) (hx : RV P G arr (.agg xs) (.agg us)) {es : List (V × V)} {m : List MapEntry} {r : Option (Nat × V)} (hp : RP P G arr es m) (hf : findA ks xs es 0 = some r) :
    (r = none ∧ (Instr.findKey t (.agg us) m).run P w = .ok none w) ∨ ∃ j v e, r = some (j, v) ∧ m[j]? = some e ∧ es[j]?.map (·.2) = some v ∧ (Instr.findKey t (.agg us) m).run P w = .ok (some (j, e.val)) w ∧ e.key = .agg us ∧ RV P G arr v e.val := by
  obtain ⟨fs, hu, -⟩ := flat_of hks
  have hrun : (Instr.findKey t (.agg us) m).run P w = (Instr.findAsking t (.agg us) m 0).run P w := by
    simp only [Instr.findKey, Sem.run_bind, run_und hu, Result.andThen_ok]
    cases m with
    | nil => simp [Instr.findNow, Instr.findAsking]
    | cons e m => simp [Instr.findNow, Instr.sameNow]
  rcases findAskingA (w := w) hks hx es m 0 r hp hf with ⟨g1, g2⟩ | ⟨j, v, e, g1, g2, g3, g4, g5, g6⟩
  · exact .inl ⟨g1, by rw [hrun, g2]⟩
  · exact .inr ⟨j, v, e, by rw [g1, Nat.zero_add], g2, g3, by rw [hrun, g4, Nat.zero_add], g5, g6⟩

theorem sameBits_basic {n : Nat} {v : Value} (h : basic v = true) : Instr.sameBits n v v = true := by
  unfold basic at h
  split at h
  · cases n <;> simp [Instr.sameBits, MapKept.bytes_beq]
  · cases n <;> simp [Instr.sameBits]
  · cases n <;> simp [Instr.sameBits]
  · cases h
theorem zip_self {α : Type} (f : α × α → Bool) : ∀ l : List α, (∀ x ∈ l, f (x, x) = true) → (l.zip l).all f = true
  | [], _ => rfl
  | x :: l, h => by
    have ih := zip_self f l fun x hx => h x (by simp [hx])
    rw [List.zip_cons_cons, List.all_cons, ih, h x (by simp)]; rfl
theorem run_keepA {P : Program} {w : World} {us : Array Value} (h : ∀ (j : Nat) u, us[j]? = some u → basic u = true) : (Instr.keyThatStays (.agg us) (.agg us)).run P w = .ok (.agg us) w := by
  have : Instr.sameBits 10000 (.agg us) (.agg us) = true := by
    have : ∀ n : Nat, Instr.sameBits (n + 1) (.agg us) (.agg us) = true := fun n => by
      simp only [Instr.sameBits, beq_self_eq_true, Bool.true_and]
      refine zip_self _ _ fun x hx => ?_
      obtain ⟨j, hj, e⟩ := List.getElem_of_mem hx
      exact sameBits_basic (h j x (by rw [← e]; simp at hj ⊢))
    exact this 9999
  simp [Instr.keyThatStays, this]

def vLookA (E : Env) (heap : List VObj) (t : TypeId) (m : V) (xs : List V) (ok : Bool) (K : V → Prop) : Prop :=
  match E.P.underlying t, mapAt heap m with
  | some (.map kt et), some es => match flatK E.P kt with
    | some ks => fits ks xs xs = true ∧ match findA ks xs es 0 with
      | some (some (_, v)) => K (if ok then .tuple [v, .bool true] else v)
      | some none => zeroOKP E.P et = true ∧ K (if ok then .tuple [zeroVP E.P et, .bool false] else zeroVP E.P et)
      | none => False
    | none => False
  | _, _ => False
def vLookK (E : Env) (heap : List VObj) (t : TypeId) (m k : V) (ok : Bool) (K : V → Prop) : Prop := match k with
  | .agg xs => vLookA E heap t m xs ok K
  | k => vLook E heap t m k ok K

theorem lookA_out {E : Env} {G : Gh} {heap : List VObj} {arr : List Nat} {w0 : Base} {w : World} (h : RelW E G heap arr w0 w) {t : TypeId} {m : V} {xs : List V} {vm vk : Value} {ok : Bool} {K : V → Prop} (hm : RV E.P G arr m vm) (hk : RV E.P G arr (.agg xs) vk)
    (hK : vLookA E heap t m xs ok K) : ∃ u y, (Instr.lookup t vm vk ok).run E.P w = .ok u w ∧ K y ∧ RV E.P G arr y u := by
  unfold vLookA at hK
  split at hK
  case h_2 => exact hK.elim
  rename_i kt et es ht hat
  split at hK
  case h_2 => exact hK.elim
  rename_i ks hks
  obtain ⟨hkey, hK⟩ := hK
  obtain ⟨us, rfl⟩ : ∃ us, vk = .agg us := by cases hk; exact ⟨_, rfl⟩
  have hes : ∃ ms : Array MapEntry, RP E.P G arr es ms.toList ∧ ((vm = .map none ∧ ms = #[]) ∨ ∃ b clk, vm = .map (some b) ∧ w.heap[b]? = some (.map ms clk)) := by
    unfold mapAt at hat
    split at hat
    · cases hm
      simp only [Option.some.injEq] at hat
      subst hat
      exact ⟨#[], ⟨rfl, by simp⟩, .inl ⟨rfl, rfl⟩⟩
    · rename_i id
      split at hat
      · rename_i es' hh
        simp only [Option.some.injEq] at hat
        subst hat
        cases hm with
        | map _ b hb =>
          obtain ⟨b', hb', ms, clk, g1, g2, g3⟩ := h.obj id _ hh
          rw [hb] at hb'; cases hb'
          refine ⟨ms, ⟨by simpa using g2, fun j kx vx hj => ?_⟩, .inr ⟨b, clk, rfl, g1⟩⟩
          obtain ⟨e, q1, q2⟩ := g3 j kx vx hj
          exact ⟨e, by simpa using q1, q2⟩
      · cases hat
    · cases hat
  obtain ⟨ms, hrp, hvm⟩ := hes
  have hck := run_checkKeyA (w := w) hks hkey hk ms.isEmpty
  split at hK
  · rename_i i v hf
    rcases run_findKeyA (w := w) hks hk hrp hf with ⟨g1, _⟩ | ⟨j, v', e, g1, g2, g3, g4, g5, g6⟩
    · cases g1
    · simp only [Option.some.injEq, Prod.mk.injEq] at g1
      obtain ⟨_, rfl⟩ := g1
      have hfk := g4
      cases ok with
      | true =>
        refine ⟨.tuple #[e.val, .bool true], _, ?_, hK, ?_⟩
        · rcases hvm with ⟨rfl, rfl⟩ | ⟨b, clk, rfl, hb⟩
          · simp only [Instr.lookup, Sem.run_bind, run_und ht, Result.andThen_ok, hck, hfk, Sem.run_pure, if_true]
          · simp only [Instr.lookup, Sem.run_bind, run_und ht, Result.andThen_ok, MapKept.run_getObj_map hb, hck, hfk, Sem.run_pure, if_true]
        · refine .tuple _ _ rfl fun j c u hc hu => ?_
          match j with
          | 0 => simp at hc hu; subst hc hu; exact g6
          | 1 => simp at hc hu; subst hc hu; exact .bool _
          | j + 2 => simp at hc
      | false =>
        refine ⟨e.val, _, ?_, hK, g6⟩
        rcases hvm with ⟨rfl, rfl⟩ | ⟨b, clk, rfl, hb⟩
        · simp only [Instr.lookup, Sem.run_bind, run_und ht, Result.andThen_ok, hck, hfk, Sem.run_pure, Bool.false_eq_true, if_false]
        · simp only [Instr.lookup, Sem.run_bind, run_und ht, Result.andThen_ok, MapKept.run_getObj_map hb, hck, hfk, Sem.run_pure, Bool.false_eq_true, if_false]
  · rename_i hf
    obtain ⟨hz, hK⟩ := hK
    rcases run_findKeyA (w := w) hks hk hrp hf with ⟨_, hfk⟩ | ⟨j, v', e, g1, _⟩
    · obtain ⟨i, z, hi, hz'⟩ := zeroOK_spec (E := E) (t := et) hz
      have hzv : RV E.P G arr (zeroVP E.P et) z := by
        unfold zeroVP; rw [hi]; simp only [hz']; exact RV.ofV z
      have hzr := run_zeroValue (w := w) hi hz'
      cases ok with
      | true =>
        refine ⟨.tuple #[z, .bool false], _, ?_, hK, ?_⟩
        · rcases hvm with ⟨rfl, rfl⟩ | ⟨b, clk, rfl, hb⟩
          · simp only [Instr.lookup, Sem.run_bind, run_und ht, Result.andThen_ok, hck, hfk, Sem.run_pure, if_true, hzr]
          · simp only [Instr.lookup, Sem.run_bind, run_und ht, Result.andThen_ok, MapKept.run_getObj_map hb, hck, hfk, Sem.run_pure, if_true, hzr]
        · refine .tuple _ _ rfl fun j c u hc hu => ?_
          match j with
          | 0 => simp at hc hu; subst hc hu; exact hzv
          | 1 => simp at hc hu; subst hc hu; exact .bool _
          | j + 2 => simp at hc
      | false =>
        refine ⟨z, _, ?_, hK, hzv⟩
        rcases hvm with ⟨rfl, rfl⟩ | ⟨b, clk, rfl, hb⟩
        · simp only [Instr.lookup, Sem.run_bind, run_und ht, Result.andThen_ok, hck, hfk, Sem.run_pure, Bool.false_eq_true, if_false, hzr]
        · simp only [Instr.lookup, Sem.run_bind, run_und ht, Result.andThen_ok, MapKept.run_getObj_map hb, hck, hfk, Sem.run_pure, Bool.false_eq_true, if_false, hzr]
    · cases g1
  · exact hK.elim
theorem lookK_out {E : Env} {G : Gh} {heap : List VObj} {arr : List Nat} {w0 : Base} {w : World} (h : RelW E G heap arr w0 w) {t : TypeId} {m k : V} {vm vk : Value} {ok : Bool} {K : V → Prop} (hm : RV E.P G arr m vm) (hk : RV E.P G arr k vk)
    (hK : vLookK E heap t m k ok K) : ∃ u y, (Instr.lookup t vm vk ok).run E.P w = .ok u w ∧ K y ∧ RV E.P G arr y u := by
  unfold vLookK at hK
  split at hK
  · exact lookA_out h hm hk hK
  · exact look_out h hm hk hK

def vMapSetA (E : Env) (heap : List VObj) (t : TypeId) (m : V) (xs : List V) (v : V) (K : List VObj → Prop) : Prop :=
  match E.P.underlying t, m with
  | some (.map kt _), .map id => match heap[id]?, flatK E.P kt with
    | some (.map es), some ks => fits ks xs xs = true ∧ match findA ks xs es 0 with
      | some (some (j, _)) => K (heap.set id (.map (es.set j (.agg xs, v))))
      | some none => K (heap.set id (.map (es ++ [(.agg xs, v)])))
      | none => False
    | _, _ => False
  | _, _ => False
def vMapSetK (E : Env) (heap : List VObj) (t : TypeId) (m k v : V) (K : List VObj → Prop) : Prop := match k with
  | .agg xs => vMapSetA E heap t m xs v K
  | k => vMapSet E heap t m k v K

theorem mapSetA_out {E : Env} {G : Gh} {heap : List VObj} {arr : List Nat} {w0 : Base} {w : World} (h : RelW E G heap arr w0 w) {t : TypeId} {m x : V} {xs : List V} {vm vk vx : Value} {K : List VObj → Prop} (hm : RV E.P G arr m vm) (hk : RV E.P G arr (.agg xs) vk)
    (hx : RV E.P G arr x vx) (hK : vMapSetA E heap t m xs x K) : ∃ w' heap', (Instr.mapUpdate t vm vk vx).run E.P w = .ok () w' ∧ K heap' ∧ RelW E G heap' arr w0 w' := by
  unfold vMapSetA at hK
  split at hK
  case h_2 => exact hK.elim
  rename_i kt et id ht
  split at hK
  case h_2 => exact hK.elim
  rename_i es ks hh hks
  obtain ⟨hkey, hK⟩ := hK
  obtain ⟨us, rfl⟩ : ∃ us, vk = .agg us := by cases hk; exact ⟨_, rfl⟩
  cases hm with
  | map _ b hb =>
    obtain ⟨b', hb', ms, clk, g1, g2, g3⟩ := h.obj id _ hh
    rw [hb] at hb'; cases hb'
    have hrp : RP E.P G arr es ms.toList := ⟨by simpa using g2, fun j kx vx hj => by
      obtain ⟨e, q1, q2⟩ := g3 j kx vx hj
      exact ⟨e, by simpa using q1, q2⟩⟩
    have hck := run_checkKeyA (w := w) hks hkey hk false
    have hidl := (List.getElem?_eq_some_iff.1 hh).1
    have hbl : b < w.heap.size := (Array.getElem?_eq_some_iff.1 g1).1
    have go : ∀ (ms' : Array MapEntry) (clk' : Nat) (es' : List (V × V)), RP E.P G arr es' ms'.toList → RelW E G (heap.set id (.map es')) arr w0 { w with heap := w.heap.setIfInBounds b (.map ms' clk') } := by
      intro ms' clk' es' hp
      refine h.change hb hidl (by rw [hh]; simp) rfl rfl rfl (by simp) (fun k hk => by simp [Array.getElem?_setIfInBounds_ne (Ne.symm hk)]) ⟨ms', clk', by simp [hbl], by simpa using hp.1, fun j kx vx hj => ?_⟩
      obtain ⟨e, q1, q2⟩ := hp.2 j kx vx hj
      exact ⟨e, by simpa using q1, q2⟩
    split at hK
    · rename_i j v hf
      rcases run_findKeyA (w := w) hks hk hrp hf with ⟨q1, _⟩ | ⟨j', v', e, q1, q2, q3, q4, q5, q6⟩
      · cases q1
      · simp only [Option.some.injEq, Prod.mk.injEq] at q1
        obtain ⟨rfl, rfl⟩ := q1
        have hj : ms[j]? = some e := by simpa using q2
        have hkeep := run_keepA (P := E.P) (w := w) (fits_det hkey hk hk).2
        refine ⟨_, _, ?_, hK, go (ms.modify j fun e => { e with key := .agg us, val := vx }) clk _ ⟨by simp [hrp.1], fun i kx ux hi => ?_⟩⟩
        · simp only [Instr.mapUpdate, Sem.run_bind, run_und ht, Result.andThen_ok, MapKept.run_getObj_map g1, hck, q4, hj, Option.map_some, Option.getD_some, q5, hkeep, MapKept.run_setObj_map _ g1]
        · by_cases hij : i = j
          · subst hij
            have hjl : i < es.length := by
              rcases Nat.lt_or_ge i es.length with h' | h'
              · exact h'
              · rw [List.getElem?_eq_none (by simpa using h')] at hi; cases hi
            rw [List.getElem?_set_self hjl] at hi
            cases hi
            exact ⟨{ e with key := .agg us, val := vx }, by simp [hj], hk, hx⟩
          · rw [List.getElem?_set_ne (Ne.symm hij)] at hi
            obtain ⟨e2, r1, r2⟩ := hrp.2 i kx ux hi
            refine ⟨e2, ?_, r2⟩
            simp only [Array.getElem?_toList] at r1 ⊢
            rw [Array.getElem?_modify, if_neg (Ne.symm hij)]; exact r1
    · rename_i hf
      rcases run_findKeyA (w := w) hks hk hrp hf with ⟨_, hfk⟩ | ⟨j', v', e, q1, _⟩
      · refine ⟨_, _, ?_, hK, go (ms.push { key := .agg us, val := vx, born := clk }) (clk + 1) _ ⟨by simp [hrp.1], fun i kx ux hi => ?_⟩⟩
        · simp only [Instr.mapUpdate, Sem.run_bind, run_und ht, Result.andThen_ok, MapKept.run_getObj_map g1, hck, hfk, MapKept.run_setObj_map _ g1]
        · have hl := hrp.1
          simp only [Array.toList_push]
          by_cases hil : i < es.length
          · rw [List.getElem?_append_left hil] at hi
            obtain ⟨e2, r1, r2⟩ := hrp.2 i kx ux hi
            exact ⟨e2, by rw [List.getElem?_append_left (by omega)]; exact r1, r2⟩
          · rw [List.getElem?_append_right (by omega)] at hi
            have hi0 : i - es.length = 0 := by
              rcases Nat.eq_zero_or_pos (i - es.length) with h' | h'
              · exact h'
              · rw [List.getElem?_eq_none (by simp; omega)] at hi; cases hi
            rw [hi0] at hi
            simp at hi
            obtain ⟨rfl, rfl⟩ := hi
            exact ⟨{ key := .agg us, val := vx, born := clk }, by rw [List.getElem?_append_right (by omega), hl, hi0]; rfl, hk, hx⟩
      · cases q1
    · exact hK.elim
theorem mapSetK_out {E : Env} {G : Gh} {heap : List VObj} {arr : List Nat} {w0 : Base} {w : World} (h : RelW E G heap arr w0 w) {t : TypeId} {m k x : V} {vm vk vx : Value} {K : List VObj → Prop} (hm : RV E.P G arr m vm) (hk : RV E.P G arr k vk)
    (hx : RV E.P G arr x vx) (hK : vMapSetK E heap t m k x K) : ∃ w' heap', (Instr.mapUpdate t vm vk vx).run E.P w = .ok () w' ∧ K heap' ∧ RelW E G heap' arr w0 w' := by
  unfold vMapSetK at hK
  split at hK
  · exact mapSetA_out h hm hk hx hK
  · exact mapSet_out h hm hk hx hK
end Go.Vg
