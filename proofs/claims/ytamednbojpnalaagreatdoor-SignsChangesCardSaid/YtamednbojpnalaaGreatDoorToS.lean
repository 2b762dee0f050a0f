/- sort.Slice over the callables: it leaves the sorted list. -/
import Derived.Test.YtamednbojpnalaaGreatDoorToR
import Derived.Test.YtamednbojpnalaaGreatDoorVgEw
import Derived.Test.YtamednbojpnalaaGreatDoorVgOrd
import Derived.Test.YtamednbojpnalaaGreatDoorVgZa
import Derived.Shelf.SlSortFuncK.WholeK
set_option linter.unusedVariables false
set_option linter.unusedSimpArgs false
set_option maxRecDepth 20000
namespace Go.Proofs.YtamednbojpnalaaGreatDoor
open Go Go.Vg Go.Proofs Go.Shelf Go.RowKit Go.Sort
instance : Inhabited Cb := ⟨⟨⟨#[]⟩, ⟨#[]⟩, ⟨#[]⟩⟩⟩
def ltC (a b : Cb) : Bool := ltB a.name b.name
theorem swoC : SWO ltC := ⟨fun _ => ltB_irrefl _, fun _ _ _ h1 h2 => ltB_trans h1 h2, fun _ _ _ h1 h2 => ltB_ntrans h1 h2⟩
def encC (c : Cb) : List Value := [.string c.name, .string c.sign, .string c.path]
def sortC (l : List Cb) : List Cb := l.mergeSort fun a b => !ltC b a
theorem sortC_perm (l : List Cb) : (sortC l).Perm l := List.mergeSort_perm l _
theorem sortC_pair (l : List Cb) : (sortC l).Pairwise fun a b => ltC b a = false := by
  have := List.pairwise_mergeSort (le := fun a b => !ltC b a) (fun a b c h1 h2 => by
    simp only [Bool.not_eq_true'] at h1 h2 ⊢
    exact swoC.ntrans _ _ _ h2 h1) (fun a b => by
    show (!ltC b a || !ltC a b) = true
    cases h1 : ltC b a with
    | false => rfl
    | true =>
      cases h2 : ltC a b with
      | false => rfl
      | true => have := swoC.trans _ _ _ h1 h2; rw [swoC.irrefl] at this; cases this) l
  exact this.imp fun h => by simpa using h
theorem uniqC : ∀ {l1 l2 : List Cb}, l1.Perm l2 → (l1.Pairwise fun a b => ltC b a = false) → (l2.Pairwise fun a b => ltC b a = false) → (l1.Pairwise fun a b => a.name ≠ b.name) → l1 = l2 := by
  intro l1
  induction l1 with
  | nil => intro l2 h _ _ _; exact (h.symm.eq_nil).symm
  | cons a r ih =>
    intro l2 h h1 h2 hn
    cases l2 with
    | nil => exact absurd h.eq_nil (by simp)
    | cons b s =>
      have hab : a = b := by
        have ha : a ∈ b :: s := h.mem_iff.1 (by simp)
        have hb : b ∈ a :: r := h.mem_iff.2 (by simp)
        rcases List.mem_cons.1 ha with e | ha
        · exact e
        · rcases List.mem_cons.1 hb with e | hb
          · exact e.symm
          · have x1 := (List.pairwise_cons.1 h1).1 b hb
            have x2 := (List.pairwise_cons.1 h2).1 a ha
            exact absurd (ltB_tri x2 x1) ((List.pairwise_cons.1 hn).1 b hb)
      subst hab
      rw [ih (List.perm_cons a |>.1 h) (List.pairwise_cons.1 h1).2 (List.pairwise_cons.1 h2).2 (List.pairwise_cons.1 hn).2]
theorem cb_cells {l : List Cb} {j : Nat} (hj : j < l.length * 3) : ∃ c x v, l[j / 3]? = some c ∧ c.enc[j % 3]? = some x ∧ ((l.map Cb.enc).flatten)[j]? = some x ∧ (encC c)[j % 3]? = some v ∧ ∀ (P : Program) (G : Gh) (a : List Nat) u, RV P G a x u → u = v := by
  have hi : j / 3 < l.length := by omega
  have hk : j % 3 < 3 := by omega
  refine ⟨l[j / 3], (l[j / 3]).enc[j % 3]'(by rw [cb_len]; exact hk), (encC l[j / 3])[j % 3]'(by simpa [encC] using hk), List.getElem?_eq_getElem hi, List.getElem?_eq_getElem _, ?_, List.getElem?_eq_getElem _, fun P G a u hu => ?_⟩
  · have key : ∀ (l : List Cb) (i k : Nat) (hi : i < l.length) (hk : k < 3), ((l.map Cb.enc).flatten)[i * 3 + k]? = some ((l[i]).enc[k]'(by rw [cb_len]; exact hk)) := by
      intro l
      induction l with
      | nil => intro i k hi; simp at hi
      | cons c r ih =>
        intro i k hi hk
        rw [List.map_cons, List.flatten_cons]
        cases i with
        | zero =>
          rw [List.getElem?_append_left (by rw [cb_len]; omega), Nat.zero_mul, Nat.zero_add]
          exact List.getElem?_eq_getElem _
        | succ i =>
          rw [List.getElem?_append_right (by rw [cb_len]; omega), cb_len, show (i + 1) * 3 + k - 3 = i * 3 + k by omega]
          exact ih i k (by simpa using hi) hk
    have e : j = j / 3 * 3 + j % 3 := by omega
    have := key l (j / 3) (j % 3) hi hk
    rw [← e] at this
    exact this
  · generalize hc : l[j / 3] = c at hu ⊢
    have key : ∀ (m : Nat) (x : V) (v : Value), c.enc[m]? = some x → (encC c)[m]? = some v → RV P G a x u → u = v := by
      intro m x v hx hv hr
      match m with
      | 0 => simp [Cb.enc] at hx; simp [encC] at hv; subst hx hv; cases hr; rfl
      | 1 => simp [Cb.enc] at hx; simp [encC] at hv; subst hx hv; cases hr; rfl
      | 2 => simp [Cb.enc] at hx; simp [encC] at hv; subst hx hv; cases hr; rfl
      | m + 3 => simp [Cb.enc] at hx
    exact key (j % 3) _ _ (List.getElem?_eq_getElem _) (List.getElem?_eq_getElem _) hu
theorem get!_list {l : List Cb} {i : Nat} {c : Cb} (h : l[i]? = some c) : l.toArray[i]! = c := by
  obtain ⟨hi, e⟩ := List.getElem?_eq_some_iff.1 h
  rw [getElem!_pos l.toArray i (by simpa using hi)]
  simpa using e
theorem getV! {l : List Value} {i : Nat} {c : Value} (h : l[i]? = some c) : l[i]! = c := by
  obtain ⟨hi, e⟩ := List.getElem?_eq_some_iff.1 h
  rw [getElem!_pos l i hi, e]
theorem flatC {l : List Cb} {j : Nat} {c : Cb} {v : Value} (hj : j < l.length * 3) (h1 : l[j / 3]? = some c) (h2 : (encC c)[j % 3]? = some v) : (flatK encC 3 l.toArray)[j]! = v := by
  rw [get_flatK encC 3 l.toArray j (by simpa using hj), get!_list h1, getV! h2]
theorem kindK : ∀ n, 2 ≤ n → Lib.swapperK n svE 25 = Lib.swapperK 2 svE 25 := by
  intro n hn
  unfold Lib.swapperK
  have h0 : (n == 0) = false := by simp; omega
  have h1 : (n == 1) = false := by simp; omega
  rw [h0, h1]
  rfl
theorem SortVec {h : List VObj} {a : List Nat} {id k gen o : Nat} {l : List Cb} {K : Cont} (hid : h[id]? = some (.vec k gen 119 (l.map Cb.enc).flatten)) (ho : h[o]? = some (.cells [.vec id k gen l.length 119])) (hl : 1 ≤ l.length)
    (hn : l.Pairwise fun a b => a.name ≠ b.name) (hK : K (.tuple []) (h.set id (.vec k gen 119 ((sortC l).map Cb.enc).flatten)) a) :
    VCalls (envV 116) 98 [.iface 116 (.vec id k gen l.length 119), .func 99 [.ptr o 0]] h a K := by
  intro G w0 w vals hr ha
  obtain ⟨v, vs, rfl, hv, ha⟩ := ha.cons
  obtain ⟨v2, vs, rfl, hv2, ha⟩ := ha.cons
  rw [ha.nil]
  have hce : Tryz.prog.cellsOf 119 = 3 := by kernel_rfl
  obtain ⟨hak, hgg, b, hi, hρ, hch, hcells⟩ := hr.vs.at_ _ _ _ _ _ hid
  cases hv with
  | iface _ _ x hx =>
  cases hx with
  | vec _ _ _ _ _ b' off cap hvv h1 h2 =>
  cases hv2 with
  | func _ _ cs f1 f2 =>
  obtain ⟨n, q1, q2, q3⟩ := hvv
  rw [hak] at q1
  cases q1
  obtain ⟨b1, hi1, q4, q5, q6, q7, q8⟩ := q3 rfl
  rw [hρ] at q4
  cases q4
  subst q7 q8
  rw [show (envV 116).P = Tryz.prog from rfl, hce] at q5
  have hcsl : ((l.map Cb.enc).flatten).length = l.length * 3 := by
    rw [flatten_len (c := 3)]
    · rw [List.length_map]
    · intro i el hi
      rw [List.getElem?_map] at hi
      cases hl : l[i]? with
      | none => rw [hl] at hi; cases hi
      | some c => rw [hl] at hi; cases hi; rfl
  have hhi : 0 < hi := by omega
  obtain ⟨⟨c, t, hb, hcz⟩, hloose, hFn, hw0⟩ := hr.reg k b 0 hi hρ hhi
  have hblk : b < w.heap.size := (Array.getElem?_eq_some_iff.1 hb).1
  obtain ⟨Bs, hφ, ce, te, hB, hBz, hBv⟩ := hr.obj o _ ho
  obtain ⟨sv, hsv, hsr⟩ := hBv 0 _ rfl
  have hcs1 : cs.size = 1 := by simpa using f1.symm
  obtain ⟨cp, rfl⟩ : ∃ cp, cs = #[cp] := by
    obtain ⟨l'⟩ := cs
    obtain ⟨cp, rfl⟩ := List.length_eq_one_iff.1 (show l'.length = 1 by simpa using hcs1)
    exact ⟨cp, rfl⟩
  have hptr := f2 0 _ cp rfl rfl
  cases hptr with
  | ptr _ _ B' hB' =>
  rw [hφ] at hB'
  cases hB'
  have hBne : Bs ≠ b := by
    rintro rfl
    have := hloose o hφ _ ho
    simp [VObj.looseAt] at this
  have hBlt : Bs < w.heap.size := (Array.getElem?_eq_some_iff.1 hB).1
  have hsve : sv = .slice (some ⟨b, 0, none⟩) l.length cap := by
    cases hsr with
    | vec _ _ _ _ _ b2 off2 cap2 hv2 _ _ =>
    obtain ⟨n2, r1, r2, r3⟩ := hv2
    rw [hak] at r1
    cases r1
    obtain ⟨b3, hi3, r4, r5, r6, r7, r8⟩ := r3 rfl
    rw [hρ] at r4
    cases r4
    subst r7 r8
    rw [show (envV 116).P = Tryz.prog from rfl, hce] at r5
    have : cap2 = cap := by omega
    rw [this]
  subst hsve
  have hBs : w.cell? ⟨Bs, 0, none⟩ = some (.slice (some ⟨b, 0, none⟩) l.length cap) := by
    simp only [World.cell?, hB]
    simpa using hsv
  have hH : HoldsK encC 3 w b 0 l.toArray := by
    intro j hj
    rw [size_flatK] at hj
    have hj' : j < l.length * 3 := by simpa using hj
    obtain ⟨c1, x1, v1, e1, e2, e3, e4, e5⟩ := cb_cells hj'
    obtain ⟨u, u1, u2, u3⟩ := hcells j x1 e3
    rw [flatC hj' e1 e4, Nat.zero_add]
    refine ⟨by rw [u1, e5 _ _ _ _ u2]; rfl, ?_⟩
    simp [World.frozen?, hb]
  have hlen : (l.toArray : Array Cb).size = l.length := by simp
  by_cases h1l : l.length = 1
  · have hso : sortC l = l := by
      obtain ⟨c0, hc0⟩ := List.length_eq_one_iff.1 h1l
      have := sortC_perm l
      rw [hc0] at this ⊢
      exact List.perm_singleton.1 this
    have hset : h.set id (.vec k gen 119 ((sortC l).map Cb.enc).flatten) = h := by rw [hso]; exact set_same hid
    rw [hset] at hK
    have hf : ∃ g, Tryz.prog.funcs.findIdx? (·.name == "internal/reflectlite" ++ ".Swapper$" ++ toString (Lib.swapperK l.length svE 25)) = some g := by
      rw [h1l]
      exact Option.isSome_iff_exists.1 (by kernel_rfl)
    obtain ⟨g, hf⟩ := hf
    refine (Any.sort_Slice_tiny Tryz.laysGg6 116 119 svT svE (by kernel_rfl) (by kernel_rfl) (by kernel_rfl) (by kernel_rfl) 25 (fun _ => by kernel_rfl) (some ⟨b, 0, none⟩) l.length cap (by omega) g hf (.func 99) #[] #[.pointer (some ⟨Bs, 0, none⟩)] w).mono ?_
    rintro e w' ⟨rfl, os, rfl⟩
    refine .inl ⟨_, rfl, _, _, _, G, hK, Ext.refl _ _, hr.belowW ⟨rfl, rfl, rfl, ?_, fun i hi => ?_⟩, .tuple _ _ rfl (by simp)⟩
    · show w.heap.size ≤ (w.heap ++ os).size
      simp
    · show (w.heap ++ os)[i]? = w.heap[i]?
      rw [Array.getElem?_append_left hi]
  · have hless : LessReadsK Tryz.prog 99 #[.pointer (some ⟨Bs, 0, none⟩)] encC 3 ltC b 0 l.toArray.size w := by
      intro m os dk hs i j hi hj
      have e : sortWorldK encC 3 w b 0 m dk os = putRowK encC 3 (grow (Sort.ahead w m) os) b 0 dk := by
        unfold sortWorldK; rw [putRowK_grow _ _ (Sort.ahead w m) _ b 0 _ hblk]
      have hHg : HoldsK encC 3 (grow (Sort.ahead w m) os) b 0 l.toArray := holdsK_grow _ _ _ _ b 0 _ hblk (holdsK_ahead _ _ _ _ _ _ _ hH)
      refine Sless b 0 cap Bs l.length _ (fun t => dk[t]!.name) ?_ (fun t ht => ?_) i j (by omega) (by omega) (by omega)
      · rw [e, cell?_putRowK_other _ _ _ b 0 dk _ (by exact hBne), cell?_grow _ _ _ (by exact hBlt)]; exact hBs
      · rw [e]
        exact ((holdsK_putRowK _ _ _ b 0 l.toArray dk hHg hs).cell (i := t) (c := 0) (by omega) (by omega)).1
    refine (Any.sort_Slice_cells_sorted Tryz.laysGg6 116 119 svT svE (by kernel_rfl) (by kernel_rfl) (by kernel_rfl) (by kernel_rfl) 25 (fun _ => by kernel_rfl) encC 3 (fun _ => rfl) (by kernel_rfl) (fun _ => by kernel_rfl)
      (fun x v hv => by simp [encC] at hv; rcases hv with rfl | rfl | rfl <;> rfl) ltC swoC 99 _
      (enters_of Tryz.func99 (by kernel_rfl) rfl) b 0 cap l.toArray (by omega) (by omega) 187 (by rw [kindK _ (by omega)]; kernel_rfl) false
      (fun args W => run_callFunc_extern Tryz.func187 (by kernel_rfl) (by kernel_rfl) (by kernel_rfl) (e := Extern.ReflectliteSwapper.swap false) (by kernel_rfl) args W) w hless hH hblk).mono ?_
    rintro e w' ⟨rfl, d', n, os, hpm, hso, rfl⟩
    obtain ⟨p1, p2, p3⟩ := hpm
    have hd' : d'.toList = sortC l := by
      refine (uniqC (sortC_perm l |>.trans ?_) (sortC_pair l) ?_ ?_).symm
      · have t1 : List.take d'.size l = l := List.take_of_length_le (by omega)
        have := p3.symm
        simp only [hlen] at this p1
        rw [← p1] at this
        simpa [t1] using this
      · rw [List.pairwise_iff_getElem]
        intro i j hi hj hij
        have := hso i j (Nat.zero_le _) hij (by simp at hj; omega)
        rw [getElem!_pos d' i (by simpa using hi), getElem!_pos d' j (by simpa using hj)] at this
        simpa using this
      · exact (sortC_perm l).symm.pairwise hn (fun h => fun e => h e.symm)
    have hsl : (sortC l).length = l.length := (sortC_perm l).length_eq
    have hdd : d' = (sortC l).toArray := by rw [← hd']
    subst hdd
    have hel : ∀ c1 ∈ l, ∀ (m : Nat) (x : V) (v : Value), m < 3 → c1.enc[m]? = some x → (encC c1)[m]? = some v → RV Tryz.prog G a x v := by
      intro c1 hc1 m x v hm hx hv
      obtain ⟨i, hi, rfl⟩ := List.getElem_of_mem hc1
      have hj : i * 3 + m < l.length * 3 := by omega
      obtain ⟨c2, x1, v1, e1, e2, e3, e4, e5⟩ := cb_cells hj
      have hd1 : (i * 3 + m) / 3 = i := by omega
      have hd2 : (i * 3 + m) % 3 = m := by omega
      rw [hd1, List.getElem?_eq_getElem hi] at e1
      cases e1
      rw [hd2] at e2 e4
      rw [hx] at e2; cases e2
      rw [hv] at e4; cases e4
      obtain ⟨u, u1, u2, u3⟩ := hcells _ _ e3
      have := e5 _ _ _ _ u2
      subst this
      exact u2
    have hcl' : (((sortC l).map Cb.enc).flatten).length = l.length * 3 := by
      rw [flatten_len (c := 3), List.length_map, hsl]
      intro i el hi
      rw [List.getElem?_map] at hi
      cases hl : (sortC l)[i]? with
      | none => rw [hl] at hi; cases hi
      | some c => rw [hl] at hi; cases hi; rfl
    obtain ⟨hx, hr'⟩ := hr.vecStep2 (gen' := gen) (cs' := ((sortC l).map Cb.enc).flatten) (w' := putRowK encC 3 (Sort.ahead w n) b 0 (sortC l).toArray) (c' := putCells _root_.id 0 (flatK encC 3 (sortC l).toArray) c) hid hρ hhi (Nat.le_refl _) hb (by rw [hcl']; omega) (fun j x hj => by
      have hjl : j < (sortC l).length * 3 := by
        have := (List.getElem?_eq_some_iff.1 hj).1
        rw [hcl'] at this; rw [hsl]; exact this
      obtain ⟨c2, x1, v1, e1, e2, e3, e4, e5⟩ := cb_cells hjl
      rw [hj] at e3; cases e3
      have hm2 : c2 ∈ l := (sortC_perm l).mem_iff.1 (List.mem_of_getElem? e1)
      refine ⟨v1, ?_, hel c2 hm2 _ _ _ (by omega) e2 e4, ?_⟩
      · have hjc : j < c.size := by rw [hsl] at hjl; omega
        simp only [putCells, Array.getElem?_mapIdx, Array.getElem?_eq_getElem hjc, Option.map_some]
        rw [if_pos ⟨Nat.zero_le _, by simpa using hjl⟩, Nat.sub_zero, flatC hjl e1 e4]
        rfl
      · have : ∀ v ∈ encC c2, v.oneCell' = true := fun v hv => by simp [encC] at hv; rcases hv with rfl | rfl | rfl <;> rfl
        exact this _ (List.mem_of_getElem? e4)) rfl rfl rfl (by simp [putRowK]) (fun k' hk' => by
        simp only [putRowK, putRow, mapBlock, Array.getElem?_modify]
        rw [if_neg (Ne.symm hk')]; rfl) (by
        simp only [putRowK, putRow, mapBlock, Array.getElem?_modify]
        rw [if_pos trivial, show (Sort.ahead w n).heap = w.heap from rfl, hb]; rfl) (by simp [putCells]) (fun j hj => by
        simp only [putCells, Array.getElem?_mapIdx]
        cases hcj : c[j]? with
        | none => rfl
        | some y =>
          simp only [Option.map_some]
          rw [if_neg]
          intro h
          have := h.2
          simp only [size_flatK, List.size_toArray, hsl] at this
          omega)
    have hset : a.set k gen = a := set_same hak
    rw [hset] at hx hr'
    refine .inl ⟨_, rfl, _, _, _, G, hK, hx, hr'.belowW ⟨rfl, rfl, rfl, ?_, fun i hi => ?_⟩, .tuple _ _ rfl (by simp)⟩
    · simp
    · exact heap_grow_old _ _ hi
end Go.Proofs.YtamednbojpnalaaGreatDoor
