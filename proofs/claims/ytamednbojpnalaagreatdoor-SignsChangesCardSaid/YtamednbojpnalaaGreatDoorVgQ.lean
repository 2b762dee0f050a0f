/- Freezing an object; calls that take over a slot; heaps of which only a part is known. -/
import Derived.Test.YtamednbojpnalaaGreatDoorVgO
set_option linter.unusedVariables false
set_option linter.unusedSimpArgs false
namespace Go.Vg
open Go.RowKit

theorem RV.oneCell {P : Program} {G : Gh} {arr : List Nat} {x : V} {v : Value} (h : RV P G arr x v) (hc : x.cell = true) : v.oneCell' = true := by
  obtain ⟨h1, h2⟩ := h.cell_one hc
  cases v <;> first | rfl | exact absurd rfl (h1 _) | exact absurd rfl (h2 _)

theorem RelW.freezeO {E : Env} {G : Gh} {heap : List VObj} {arr : List Nat} {w0 : Base} {w : World} (h : RelW E G heap arr w0 w) {id : Nat} {cs : List V} (hh : heap[id]? = some (.cells cs)) (hc : cs.all V.cell = true) :
    ∃ G' b, G.φ[id]? = some b ∧ Ext G arr G' arr ∧ RelW E G' (heap.set id .dead) arr w0 w ∧ G'.φ = G.φ ∧ ∀ (j : Nat) c, cs[j]? = some c → ∃ u, G'.F b j = some u ∧ RV E.P G' arr c u := by
  obtain ⟨b, hb, c, e, g1, g2, g3⟩ := h.obj id _ hh
  have hidl := (List.getElem?_eq_some_iff.1 hh).1
  have hF0 : ∀ o, G.F b o = none := fun o => h.sep id b o hb (by rw [hh]; simp)
  let G' : Gh := ⟨fun b' o => if b' = b then c[o]? else G.F b' o, G.φ, G.ρ⟩
  have hx : Ext G arr G' arr := by
    refine ⟨fun b' o v hv => ?_, fun _ _ h => h, fun _ n h => ⟨n, h, Nat.le_refl _, fun _ => rfl⟩⟩
    show (if b' = b then c[o]? else G.F b' o) = _
    rw [if_neg (fun e => by subst e; rw [hF0] at hv; cases hv)]
    exact hv
  refine ⟨G', b, hb, hx, ⟨fun b' o v hv hlt => h.newF b' o v ?_ hlt, fun g cs hg => ⟨(h.glob g cs hg).1, (h.glob g cs hg).2.mono hx⟩, h.below, fun b' o v hv => ?_, fun b' o v hv => ?_, fun i ob hi => ?_, by simp [G', h.lenφ], h.nod, fun i b' o hi hd => ?_, h.geφ, h.lenρ, fun k b' lo hi hk hlt => ?_, h.regd, h.fre, fun i t s b' hi hb' => by
    by_cases ei : i = id
    · subst ei
      rw [List.getElem?_set_self hidl] at hi; cases hi
    · rw [List.getElem?_set_ne (Ne.symm ei)] at hi
      exact (h.bld i t s b' hi hb').keep rfl fun g hg ⟨s1, s2, s3⟩ => ⟨rfl, fun o => by
        show (if g = b then c[o]? else G.F g o) = none
        rw [if_neg (fun e => s2 id (by rw [e]; exact hb))]; exact s1 o, s2, s3⟩, h.ini, h.vs.keep hx (fun i k gen e cs hi => by
      by_cases ei : i = id
      · subst ei
        rw [List.getElem?_set_self hidl] at hi; cases hi
      · rwa [List.getElem?_set_ne (Ne.symm ei)] at hi) (fun _ _ _ _ h _ _ => h) fun _ _ _ _ _ _ _ _ _ => rfl⟩, rfl, fun j x hj => ?_⟩
  · change (if b' = b then c[o]? else G.F b' o) = some v at hv
    rw [if_neg (fun e => by have := (h.geφ id b hb).1; omega)] at hv
    exact hv
  · change (if b' = b then c[o]? else G.F b' o) = some v at hv
    by_cases eb : b' = b
    · rw [if_pos eb] at hv; subst eb
      simp only [World.cell?, g1, Option.isSome_none, Bool.false_eq_true, if_false]; exact hv
    · rw [if_neg eb] at hv; exact h.frz _ _ _ hv
  · change (if b' = b then c[o]? else G.F b' o) = some v at hv
    by_cases eb : b' = b
    · rw [if_pos eb] at hv
      have ho : o < cs.length := by rw [← g2]; exact (Array.getElem?_eq_some_iff.1 hv).1
      obtain ⟨u, hu, hr⟩ := g3 o _ (List.getElem?_eq_getElem ho)
      rw [hv] at hu
      cases hu
      exact hr.oneCell (List.all_eq_true.1 hc _ (List.getElem_mem ho))
    · rw [if_neg eb] at hv; exact h.one _ _ _ hv
  · by_cases ei : i = id
    · subst ei
      rw [List.getElem?_set_self hidl] at hi
      cases hi
      exact ⟨b, hb, trivial⟩
    · rw [List.getElem?_set_ne (Ne.symm ei)] at hi
      obtain ⟨b', hb', hr⟩ := h.obj i ob hi
      exact ⟨b', hb', hr.keep hx rfl⟩
  · show (if b' = b then c[o]? else G.F b' o) = none
    by_cases ei : i = id
    · subst ei; rw [List.getElem?_set_self hidl] at hd; exact absurd rfl hd
    · rw [List.getElem?_set_ne (Ne.symm ei)] at hd
      rw [if_neg (fun e => ei (h.nod i id b' hi (by rw [e]; exact hb)))]
      exact h.sep i b' o hi hd
  · obtain ⟨r1, r2, r3, r4⟩ := h.reg k b' lo hi hk hlt
    refine ⟨r1, fun i hi ob hob => ?_, fun o h1 h2 => ?_, r4⟩
    · by_cases ei : i = id
      · subst ei
        rw [List.getElem?_set_self hidl] at hob; cases hob; rfl
      · rw [List.getElem?_set_ne (Ne.symm ei)] at hob
        exact r2 i hi ob hob
    show (if b' = b then c[o]? else G.F b' o) = none
    rw [if_neg (fun e => by have := r2 id (by rw [e]; exact hb) _ hh; cases this)]
    exact r3 o h1 h2
  · obtain ⟨u, hu, hr⟩ := g3 j x hj
    exact ⟨u, by show (if b = b then c[j]? else _) = _; rw [if_pos rfl]; exact hu, hr.mono hx⟩

/-- Cells as elements. -/
def chunk (sz : Nat) : Nat → List V → List (List V)
  | 0, _ => []
  | n + 1, cs => cs.take sz :: chunk sz n (cs.drop sz)

theorem chunk_length (sz : Nat) : ∀ (n : Nat) (cs : List V), (chunk sz n cs).length = n
  | 0, _ => rfl
  | n + 1, cs => by simp [chunk, chunk_length sz n]

theorem chunk_get (sz : Nat) : ∀ (n : Nat) (cs : List V) (i : Nat) el, n * sz ≤ cs.length → (chunk sz n cs)[i]? = some el → el.length = sz ∧ ∀ (j : Nat) c, el[j]? = some c → cs[i * sz + j]? = some c
  | 0, _, i, el, _, h => by simp [chunk] at h
  | n + 1, cs, i, el, hl, h => by
    rw [Nat.add_mul, Nat.one_mul] at hl
    cases i with
    | zero =>
      simp [chunk] at h
      subst h
      refine ⟨by simp; omega, fun j c hj => ?_⟩
      obtain ⟨h1, h2⟩ := take_some hj
      simpa using h2
    | succ i =>
      simp only [chunk, List.getElem?_cons_succ] at h
      obtain ⟨h1, h2⟩ := chunk_get sz n (cs.drop sz) i el (by simp; omega) h
      refine ⟨h1, fun j c hj => ?_⟩
      have := h2 j c hj
      rw [List.getElem?_drop] at this
      rw [← this]; congr 1
      rw [Nat.add_mul]; omega

theorem RV.thaw {P : Program} {G G' : Gh} {arr : List Nat} {id len cap e b : Nat} {cs : List V} {v : Value} (h : RV P G arr (.mslice id 0 len cap e) v) (hb : G.φ[id]? = some b) (hok : elemOK P e = true) (hl : len * P.cellsOf e ≤ cs.length)
    (hc : ∀ (j : Nat) c, cs[j]? = some c → ∃ u, G'.F b j = some u ∧ RV P G' arr c u) : RV P G' arr (Vg.sl e (chunk (P.cellsOf e) len cs)) v := by
  obtain ⟨i, z, hi, hz, hz1, hzs, his, hib, hs1, hb1, hb2⟩ := elemOK_spec hok
  cases h with
  | mslice _ _ _ _ _ b' hb' h1 h2 h3 =>
    rw [hb] at hb'
    cases hb'
    have hlen := chunk_length (P.cellsOf e) len cs
    have := RV.ofCells (P := P) (G := G') (arr := arr) (o := .shared) (e := e) (es := chunk (P.cellsOf e) len cs) (b := b) (off := 0) (cap := cap) trivial (fun i el hi => (chunk_get _ _ _ _ _ hl hi).1) (by rw [hlen]; exact h3) hb1 (by rw [hlen]; exact h2)
      (fun i el j c hi hj => by
        obtain ⟨u, hu, hr⟩ := hc _ _ ((chunk_get _ _ _ _ _ hl hi).2 j c hj)
        exact ⟨u, by rw [Nat.zero_add]; exact hu, hr⟩)
    rw [hlen] at this
    exact this.sl

/-- A pure function whose result is a slice that it made. -/
def finM (P : Program) (o : Option VObj) (len e : Nat) (r : V) : Prop := match o with
  | some (.cells cs) => cs.all V.cell = true ∧ elemOK P e = true ∧ len * P.cellsOf e ≤ cs.length ∧ sl e (chunk (P.cellsOf e) len cs) = r
  | _ => False
def finV (P : Program) (h : List VObj) (v r : V) : Prop := match v with
  | .mslice id 0 len _ e => finM P h[id]? len e r
  | v => share v = r
def kfrz (P : Program) (r : V) : Cont := fun v h _ => finV P h v r
section
variable {P : Program} {r v : V} {h : List VObj} {a : List Nat} {id len cap e : Nat} {o : Own} {es : List (List V)}
@[go_sem] theorem kfrz_go : kfrz P r v h a = finV P h v r := rfl
@[go_sem] theorem finV_ms : finV P h (.mslice id 0 len cap e) r = finM P h[id]? len e r := rfl
@[go_sem] theorem finM_cells {cs : List V} : finM P (some (.cells cs)) len e r = (cs.all V.cell = true ∧ elemOK P e = true ∧ len * P.cellsOf e ≤ cs.length ∧ sl e (chunk (P.cellsOf e) len cs) = r) := rfl
@[go_sem] theorem finV_slice : finV P h (.slice o e es) r = (sl e es = r) := rfl
end

theorem vpure_vcF {E : Env} {f : FuncId} {fn : Func} {c : Code} {args : List V} {r : V} (hf : E.P.funcs[f]? = some fn) (hbody : fn.body = some c) (hn : args.length ≤ fn.ntmps) (hp : pureL args = true) (hr : r.pure = true)
    (h : vc E 0 0 fn.ntmps c ⟨enumV 0 args, [], []⟩ (kfin E fn.results.toList (kfrz E.P r))) (hal : E.alive = E := by exact rfl) : VPure E f args r := by
  refine ⟨hp, hr, ?_⟩
  have := vcalls_vc (heap := []) (arr := []) (K := kfrz E.P r) hf hbody hn h
  rw [← hal] at this
  intro G w0 w vals hrel ha
  refine (this G w0 w vals hrel ha).mono fun e w' hg => ?_
  obtain ⟨val, he, v, heap', arr', G', hv, hx, hr', hrv⟩ := hg.alive
  unfold kfrz finV at hv
  split at hv
  · rename_i id len cap el
    unfold finM at hv
    split at hv
    · rename_i cs hh
      obtain ⟨h1, h2, h3, rfl⟩ := hv
      obtain ⟨G'', b, hb, hx'', hr'', hφ, hc⟩ := hr'.freezeO hh h1
      exact .inl ⟨val, he, _, _, arr', G'', rfl, hx.trans hx'', hr'', hrv.thaw hb h2 h3 hc⟩
    · exact hv.elim
  · exact .inl ⟨val, he, share v, heap', arr', G', hv, hx, hr', hrv.share⟩

/-! ### Freezing on the way -/
def frV (P : Program) (id : Nat) (cs : List V) : V → V
  | .mslice i off len cap e => if i = id then (if off = 0 ∧ elemOK P e = true ∧ len * P.cellsOf e ≤ cs.length then sl e (chunk (P.cellsOf e) len cs) else .junk) else .mslice i off len cap e
  | x => x
def frO (P : Program) (id : Nat) (cs : List V) : VObj → VObj
  | .cells ds => .cells (ds.map (frV P id cs))
  | o => o
def frT (P : Program) (id : Nat) (cs : List V) (tm : List (Nat × V)) : List (Nat × V) := tm.map fun p => (p.1, frV P id cs p.2)

theorem look_frT {P : Program} {id : Nat} {cs : List V} : ∀ (tm : List (Nat × V)) (i : Nat), look (frT P id cs tm) i = frV P id cs (look tm i) := by
  intro tm
  induction tm with
  | nil => intro i; rfl
  | cons p r ih =>
    obtain ⟨j, x⟩ := p
    intro i
    have := ih i
    simp only [frT, List.map_cons, look] at this ⊢
    split
    · rfl
    · exact this

theorem RV.frV {P : Program} {G G' : Gh} {arr : List Nat} {id b : Nat} {cs : List V} {x : V} {v : Value} (h : RV P G arr x v) (hx : Ext G arr G' arr) (hb : G.φ[id]? = some b)
    (hc : ∀ (j : Nat) c, cs[j]? = some c → ∃ u, G'.F b j = some u ∧ RV P G' arr c u) : RV P G' arr (frV P id cs x) v := by
  cases x
  case mslice i off len cap e =>
    simp only [Vg.frV]
    split
    · rename_i ei
      subst ei
      split
      · rename_i hh
        obtain ⟨rfl, h1, h2⟩ := hh
        exact h.thaw hb h1 h2 hc
      · exact .junk _
    · exact h.mono hx
  all_goals exact h.mono hx

theorem Weak.freeze {E : Env} {hb ab n : Nat} {tm : List (Nat × V)} {h : List VObj} {a : List Nat} (id : Nat) {cs : List V} (hh : h[id]? = some (.cells cs)) (hc : cs.all V.cell = true) :
    Weak E hb ab n ⟨tm, h, a⟩ ⟨frT E.P id cs tm, (h.map (frO E.P id cs)).set id .dead, a⟩ := by
  intro B G ac w q1 q2 q3 q4
  obtain ⟨G', b, hφ, hx, hr, hφ', hcs⟩ := q4.rw.freezeO hh hc
  have hidl0 := (List.getElem?_eq_some_iff.1 hh).1
  have hvc : ∀ (i k gen : Nat) e ds, ((h.map (frO E.P id cs)).set id .dead)[i]? = some (.vec k gen e ds) → (h.set id .dead)[i]? = some (.vec k gen e ds) := fun i k gen e ds hi => by
    by_cases ei : i = id
    · subst ei
      rw [List.getElem?_set_self (by simpa using hidl0)] at hi; cases hi
    · rw [List.getElem?_set_ne (Ne.symm ei)] at hi ⊢
      rw [List.getElem?_map] at hi
      obtain ⟨o, ho, he⟩ := Option.map_eq_some_iff.1 hi
      cases o <;> first | (simp only [Vg.frO] at he; cases he; done) | (simp only [Vg.frO] at he; cases he; exact ho)
  have hlo : ∀ (k i : Nat) ob, ((h.map (frO E.P id cs)).set id .dead)[i]? = some ob → (∀ o, (h.set id .dead)[i]? = some o → o.looseAt k = true) → ob.looseAt k = true := fun k i ob hob hz => by
    by_cases ei : i = id
    · subst ei
      rw [List.getElem?_set_self (by simpa using hidl0)] at hob; cases hob; rfl
    · rw [List.getElem?_set_ne (Ne.symm ei)] at hob hz
      rw [List.getElem?_map] at hob
      obtain ⟨o, ho, he⟩ := Option.map_eq_some_iff.1 hob
      have := hz o ho
      cases o <;> first | (cases this; done) | (simp only [Vg.frO] at he; cases he; exact this)
  refine ⟨G', q3.trans hx, ⟨hr.newF, hr.glob, hr.below, hr.frz, hr.one, fun i ob hi => ?_, by have := hr.lenφ; simp at this; simp [this], hr.nod, fun i b' o hi hd => hr.sep i b' o hi fun hd' => hd ?_, hr.geφ, hr.lenρ, fun k b' lo hi hk hlt => ⟨(hr.reg k b' lo hi hk hlt).1, fun i hi' ob hob => hlo k i ob hob ((hr.reg k b' lo hi hk hlt).2.1 i hi'), (hr.reg k b' lo hi hk hlt).2.2⟩, hr.regd, hr.fre, fun i t s b' hi hb' => hr.bld i t s b' (by
      have hidl := (List.getElem?_eq_some_iff.1 hh).1
      by_cases ei : i = id
      · subst ei
        rw [List.getElem?_set_self (by simpa using hidl)] at hi; cases hi
      · rw [List.getElem?_set_ne (Ne.symm ei)] at hi ⊢
        rw [List.getElem?_map] at hi
        obtain ⟨o, ho, he⟩ := Option.map_eq_some_iff.1 hi
        cases o <;> first | (simp only [Vg.frO] at he; cases he; done) | (simp only [Vg.frO] at he; cases he; exact ho)) hb', hr.ini, hr.vs.keep (Ext.refl _ _) hvc (fun _ _ _ _ h _ _ => h) fun _ _ _ _ _ _ _ _ _ => rfl⟩,
    ⟨fun i => by
      show RV _ _ _ (look (frT E.P id cs tm) i) _
      rw [look_frT]; exact (q4.rt.tm i).frV hx hφ hcs, q4.rt.sz⟩, q4.df⟩
  · have hidl := (List.getElem?_eq_some_iff.1 hh).1
    by_cases ei : i = id
    · subst ei
      rw [List.getElem?_set_self (by simpa using hidl)] at hi
      cases hi
      exact ⟨b, by rw [hφ']; exact hφ, trivial⟩
    · rw [List.getElem?_set_ne (Ne.symm ei), List.getElem?_map] at hi
      obtain ⟨o, ho, rfl⟩ := Option.map_eq_some_iff.1 hi
      obtain ⟨b', hb', hro⟩ := q4.rw.obj i o ho
      refine ⟨b', by rw [hφ']; exact hb', ?_⟩
      cases o with
      | cells ds =>
        obtain ⟨c, e, g1, g2, g3⟩ := hro
        refine ⟨c, e, g1, by simpa using g2, fun j x hj => ?_⟩
        rw [List.getElem?_map] at hj
        obtain ⟨y, hy, rfl⟩ := Option.map_eq_some_iff.1 hj
        exact (g3 j y hy).imp fun v hv => ⟨hv.1, hv.2.frV hx hφ hcs⟩
      | map es => exact RObj.keep hx rfl hro
      | siter s pos => exact hro
      | dead => trivial
      | tcells t ds => exact RObj.keep hx rfl hro
      | builder t s => exact RObj.keep hx rfl hro
      | vec _ _ _ _ => trivial
  · have hidl := (List.getElem?_eq_some_iff.1 hh).1
    by_cases ei : i = id
    · subst ei; rw [List.getElem?_set_self (by simpa using hidl)]
    · rw [List.getElem?_set_ne (Ne.symm ei)] at hd' ⊢
      rw [List.getElem?_map, hd']; rfl

/-! ### A call that takes over a nil slice as a slot -/
def telling (N : Nat) : List V → List V → Prop
  | [], [] => True
  | x :: r, y :: q => tell N x y ∧ telling N r q
  | _, _ => False
@[go_sem] theorem telling_nil {N : Nat} : telling N [] [] = True := rfl
@[go_sem] theorem telling_cons {N : Nat} {x y : V} {r q : List V} : telling N (x :: r) (y :: q) = (tell N x y ∧ telling N r q) := rfl
theorem telling_get {N : Nat} : ∀ {l l' : List V}, telling N l l' → l'.length = l.length ∧ ∀ (j : Nat) x, l'[j]? = some x → ∃ y, l[j]? = some y ∧ tell N y x := by
  intro l
  induction l with
  | nil => intro l' h; cases l' with
    | nil => exact ⟨rfl, by simp⟩
    | cons => exact h.elim
  | cons x r ih =>
    intro l' h
    cases l' with
    | nil => exact h.elim
    | cons y q =>
      obtain ⟨h1, h2⟩ := h
      obtain ⟨g1, g2⟩ := ih h2
      refine ⟨by simp [g1], fun j z hj => ?_⟩
      cases j with
      | zero => simp at hj; subst hj; exact ⟨x, rfl, h1⟩
      | succ j => simpa using g2 j z (by simpa using hj)

theorem VCalls.adopt {E : Env} {f : FuncId} {args args' : List V} {heap : List VObj} {arr : List Nat} {K : Cont} (m : Nat) (ht : telling (arr.length + 1) args args') (h : VCalls E f args' heap (arr ++ [m]) K) : VCalls E f args heap arr K := by
  intro G w0 w vals hr ha
  obtain ⟨g1, g2⟩ := hr.slot m
  obtain ⟨l1, l2⟩ := telling_get ht
  refine (h _ w0 w vals g2 ⟨by rw [l1]; exact ha.1, fun j x v hx hv => ?_⟩).mono fun e w' hg => hg.imp (fun ⟨val, he, v, heap', arr', G', hv, hx, rest⟩ => ⟨val, he, v, heap', arr', G', hv, g1.trans hx, rest⟩) fun ⟨ch, he, hd⟩ => ⟨ch, he, hd.ext g1⟩
  obtain ⟨y, hy, hyx⟩ := l2 j x hx
  exact ((ha.2 j y v hy hv).mono g1).tell (by simpa using hyx)

/-! ### Heaps and slots of which only a part is known -/
section
variable {h l m : List VObj} {a b : List Nat} {i j k n n' : Nat} {x : VObj}
@[go_sem] theorem heap_len : (h ++ l).length = h.length + l.length := List.length_append
@[go_sem] theorem heap_app : (h ++ l) ++ m = h ++ (l ++ m) := List.append_assoc _ _ _
@[go_sem] theorem heap_at : (h ++ l)[h.length]? = l[0]? := by rw [List.getElem?_append_right (Nat.le_refl _)]; simp
@[go_sem] theorem heap_at' : (h ++ l)[h.length + i]? = l[i]? := by rw [List.getElem?_append_right (by omega)]; simp
@[go_sem] theorem heap_set : (h ++ l).set h.length x = h ++ l.set 0 x := by rw [List.set_append_right _ _ (Nat.le_refl _)]; simp
@[go_sem] theorem heap_set' : (h ++ l).set (h.length + i) x = h ++ l.set i x := by rw [List.set_append_right _ _ (by omega)]; simp
@[go_sem] theorem add_zero' : n + 0 = n := rfl
@[go_sem] theorem arr_set_set : (a.set k n).set k n' = a.set k n' := List.set_set ..
theorem arr_get (h : a[k]? = some n) : (a.set k n')[k]? = some n' := List.getElem?_set_self (List.getElem?_eq_some_iff.1 h).1
@[go_sem] theorem arr_set_len : (a.set k n).length = a.length := List.length_set
theorem tellH_refl {N : Nat} : ∀ {h : List VObj}, tellH N h h
  | [] => trivial
  | x :: r => ⟨by rw [tellO_same]; trivial, tellH_refl⟩
@[go_sem] theorem tellH_same {N : Nat} : tellH N h h = True := eq_true tellH_refl
@[go_sem] theorem tellH_app {N : Nat} : tellH N (h ++ l) (h ++ m) = tellH N l m := by
  induction h with
  | nil => rfl
  | cons x r ih =>
    show (tellO N x x ∧ tellH N (r ++ l) (r ++ m)) = _
    rw [tellO_same, true_and, ih]
@[go_sem] theorem tellA_same : tellA a a = True := by
  induction a with
  | nil => rfl
  | cons x r ih => show (x = x ∧ tellA r r) = True; rw [ih]; simp
@[go_sem] theorem le_add : n ≤ n + k := Nat.le_add_right _ _
end

/-! ### A join: what comes behind a piece of code is walked once -/
def kcut (hb ab : Nat) (t : St) (Q : VEx → St → Prop) : VEx → St → Prop := thenQ (fun s => Told hb ab s t) Q
section
variable {E : Env} {hb ab n i : Nat} {s t : St} {Q : VEx → St → Prop} {x y : Code}
@[go_sem] theorem kcut_normal : kcut hb ab t Q .normal s = Told hb ab s t := rfl
@[go_sem] theorem kcut_exit : kcut hb ab t Q (.exit i) s = Q (.exit i) s := rfl
@[go_sem] theorem kcut_ret : kcut hb ab t Q .ret s = Q .ret s := rfl
theorem snd_cut (t : St) (hx : vc E hb ab n x s (kcut hb ab t Q)) (hy : Snd E hb ab n y t Q) : Snd E hb ab n (.seq x y) s Q :=
  snd_seq (fun s' => Told hb ab s' t) ((vc_snd _ _ _ hx).mono fun e s' h => by cases e <;> exact h) fun s' h => snd_weak h.weak hy
end
/-- The body of a function, not yet walked. -/
theorem vpure_snd {E : Env} {f : FuncId} {fn : Func} {c : Code} {args : List V} {r : V} (hf : E.P.funcs[f]? = some fn) (hbody : fn.body = some c) (hn : args.length ≤ fn.ntmps) (hp : pureL args = true) (hr : r.pure = true)
    (h : Snd E 0 0 fn.ntmps c ⟨enumV 0 args, [], []⟩ (kfin E fn.results.toList (kpure r))) (hal : E.alive = E := by exact rfl) : VPure E f args r :=
  vpure_of hf hbody hn hp hr h hal

end Go.Vg
