/- Reading commits: words, numbers and texts. -/
import Derived.Test.YtellnbgljmocgaaGreatDoorTcH
import Derived.Lib.AtoiErrMem
set_option linter.unusedVariables false
set_option linter.unusedSimpArgs false
set_option maxRecDepth 20000
namespace Go.Vg
/-- All but one object are as they were. -/
def Keep (id : Nat) (h h' : List VObj) : Prop := ∀ j : Nat, j ≠ id → j < h.length → h'[j]? = h[j]?
theorem Keep.refl {id : Nat} {h : List VObj} : Keep id h h := fun _ _ _ => rfl
theorem Keep.set {id : Nat} {h : List VObj} {x : VObj} : Keep id h (h.set id x) := fun j hj _ => by rw [List.getElem?_set_ne (fun e => hj e.symm)]
theorem Keep.trans {id : Nat} {h h' h'' : List VObj} (hl : h.length ≤ h'.length) (h1 : Keep id h h') (h2 : Keep id h' h'') : Keep id h h'' := fun j hj hlt => (h2 j hj (Nat.lt_of_lt_of_le hlt hl)).trans (h1 j hj hlt)
theorem vcalls_snd {E : Env} {f : FuncId} {fn : Func} {c : Code} {args : List V} {heap : List VObj} {arr : List Nat} {K : Cont} (hf : E.P.funcs[f]? = some fn) (hbody : fn.body = some c) (hn : args.length ≤ fn.ntmps)
    (h : Snd E heap.length arr.length fn.ntmps c ⟨enumV 0 args, heap, arr⟩ (kfin E fn.results.toList K)) : VCalls E f args heap arr K := vcalls_of hf hbody hn h
theorem tw_eq {x r : List UInt8} (hx : ∀ c ∈ x, isDig c = true) (hr : ∀ c t, r = c :: t → isDig c = false) : (x ++ r).takeWhile isDig = x ∧ (x ++ r).dropWhile isDig = r := by
  induction x with
  | nil =>
    cases r with
    | nil => exact ⟨rfl, rfl⟩
    | cons c t =>
      have := hr c t rfl
      simp [List.takeWhile_cons, List.dropWhile_cons, this]
  | cons c t ih =>
    have h1 := hx c (by simp)
    have := ih fun y hy => hx y (by simp [hy])
    simp [List.takeWhile_cons, List.dropWhile_cons, h1, this.1, this.2]
theorem ext_end {s : ByteArray} {pre l : List UInt8} (h : str s = pre ++ l) : (s.extract pre.length s.size).data.toList = l := by
  have hz : s.size = pre.length + l.length := by rw [size_list]; have := congrArg List.length h; simpa [str] using this
  have := ext_mid (l0 := pre) (cur := l) (r := []) (s := s) (by rw [List.append_nil]; exact h)
  rw [List.length_append, ← hz] at this
  exact this
end Go.Vg
namespace Go.Proofs.YtellnbgljmocgaaGreatDoor
open Go Go.Vg Go.Proofs
theorem LHasPrefix (s w : ByteArray) : VPure env 98 [.str s, .str w] (.bool (w.data.toList.isPrefixOf s.data.toList)) := by
  refine vpure_vc (fn := Tryz.f98) Tryz.func98 rfl (by rw [Tryz.ntmps98]; simp) rfl rfl ?_
  simp -implicitDefEqProofs only [go_sem, Tryz.f98]
  refine fun _ => fun _ => ⟨fun c => fun _ => ⟨c, ?_⟩, fun c => ?_⟩
  · congr 1
    rw [Bool.eq_iff_iff, decide_eq_true_iff, List.isPrefixOf_iff_prefix, Int.toNat_natCast]
    constructor
    · intro h
      have : (s.extract 0 w.size).data.toList = s.data.toList.take w.size := by simp [ByteArray.extract, ByteArray.copySlice]
      rw [← h, this]
      exact List.take_prefix _ _
    · rintro ⟨t, ht⟩
      apply ba_ext
      have : (s.extract 0 w.size).data.toList = s.data.toList.take w.size := by simp [ByteArray.extract, ByteArray.copySlice]
      rw [this, ← ht, size_list]
      simp
  · have : w.data.toList.isPrefixOf s.data.toList = false := by
      rw [Bool.eq_false_iff]
      intro h
      obtain ⟨t, ht⟩ := List.isPrefixOf_iff_prefix.1 h
      have := congrArg List.length ht
      rw [List.length_append, ← size_list, ← size_list] at this
      omega
    rw [this]
theorem HasPrefix (s w : ByteArray) : VPure env 59 [.str s, .str w] (.bool (w.data.toList.isPrefixOf s.data.toList)) := by
  refine vpure_vc (fn := Tryz.f59) Tryz.func59 rfl (by rw [Tryz.ntmps59]; simp) rfl rfl ?_
  simp -implicitDefEqProofs only [go_sem, Tryz.f59]
  refine (LHasPrefix s w).calls rfl ?_
  simp -implicitDefEqProofs only [go_sem]
theorem vpure_shelf2 {E : Env} {f : FuncId} {args : List V} {r : V} (hp : pureL args = true) (hr : r.pure = true)
    (h : ∀ G w0 w vals, RelW E.alive G [] [] w0 w → Args E.P G [] args vals → Calls E.P f vals w fun e w' => (∃ val, e = .returned val ∧ ∀ G arr, RV E.P G arr r val) ∧ Go.RowKit.Below w.heap.size w w') : VPure E f args r := by
  refine ⟨hp, hr, fun G w0 w vals hrel ha => (h G w0 w vals hrel ha).mono fun e w' ⟨⟨val, he, hrv⟩, hb⟩ => ?_⟩
  exact .inl ⟨val, he, r, [], [], G, rfl, Ext.refl _ _, hrel.belowW hb, hrv _ _⟩
/-- What Atoi gives. -/
def atoiV (l : List UInt8) : V := match Lib.atoiAll l with
  | .ok v => .tuple [.int .i64 v, .nilif]
  | .range => .tuple [.int .i64 (Lib.atoiSat l), .iface 195 .junk]
  | _ => .tuple [.int .i64 0, .iface 195 .junk]
theorem Atoi (s : ByteArray) (hs : s.size ≤ 1000000000) : VPure env 60 [.str s] (atoiV (str s)) := by
  have tup : ∀ (G : Gh) (arr : List Nat) (n : Int) (y : V) (v : Value), RV env.P G arr y v → RV env.P G arr (.tuple [.int .i64 n, y]) (.tuple #[.int .i64 n, v]) := fun G arr n y v hv => by
    refine .tuple _ _ rfl fun j c u hc hu => ?_
    rcases j with _ | _ | j
    · simp at hc hu; subst hc; subst hu; exact .int _ _
    · simp at hc hu; subst hc; subst hu; exact hv
    · simp at hc
  refine vpure_shelf2 rfl (by unfold atoiV; split <;> rfl) fun G w0 w vals hr ha => ?_
  obtain ⟨v, vs, rfl, hv, ha⟩ := ha.cons
  rw [ha.nil]
  cases hv
  obtain ⟨_, _, ⟨t1, p1, e1⟩, t2, p2, e2⟩ := hr.iniW
  have bw : ∀ w' : World, (w' = w ∨ ∃ t, w' = Lib.bytesWorld w 5 t) → Go.RowKit.Below w.heap.size w w' := fun w' h => by
    rcases h with rfl | ⟨t, rfl⟩
    · exact Go.RowKit.Below.refl _ _
    · exact Lib.bytesWorld_below _ _ _
  unfold atoiV
  rcases h : Lib.atoiAll (str s) with v | _ | _
  · exact (Tryz.strconv_Atoi_ok s (by omega) v h w).mono fun e w' ⟨he, hw⟩ => ⟨⟨_, he, fun G arr => tup G arr _ _ _ .nilif⟩, bw w' hw⟩
  · have h9 : Calls Tryz.prog 60 #[.string s] w fun e w' => ∃ N, e = .returned (.tuple #[.int .i64 0, .iface 195 (.pointer (some ⟨N, 0, none⟩))]) ∧ Go.RowKit.Below w.heap.size w w' :=
      (Any.strconv_Atoi_syntax Tryz.laysC172 s (by omega) h _ w (cell_of_var (by kernel_rfl) e1) (.inr ⟨_, _, rfl⟩)).mono fun e w' ⟨N, he, _, _, hb⟩ => ⟨N, he, hb⟩
    exact h9.mono fun e w' ⟨N, he, hb⟩ => ⟨⟨_, he, fun G arr => tup G arr _ _ _ (.iface _ _ _ (.junk _))⟩, hb⟩
  · exact (Tryz.strconv_Atoi_range s (by omega) h _ w (cell_of_var (by kernel_rfl) e2) (.inr ⟨_, _, rfl⟩)).mono fun e w' ⟨N, he, _, _, hb⟩ => ⟨⟨_, he, fun G arr => tup G arr _ _ _ (.iface _ _ _ (.junk _))⟩, hb⟩
theorem RDword {D : List VObj → List Nat → Prop} {h : List VObj} {a : List Nat} {id : Nat} {s w : ByteArray} {pre l : List UInt8} {K : Cont} (hsz : s.size ≤ 1000000000) (hh : h[id]? = some (.cells [.str s, .int .i64 pre.length])) (hs : str s = pre ++ l) (hD : (str w).isPrefixOf l = false → ∀ h' a', Keep id h h' → D h' a')
    (hK : ∀ rest, l = str w ++ rest → K (.tuple []) (h.set id (.cells [.str s, .int .i64 ((pre ++ str w).length : Nat)])) a) : VCalls (envD D) 37 [.ptr id 0, .str w] h a K := by
  refine vcalls_vc (fn := Tryz.f37) Tryz.func37 rfl (by rw [Tryz.ntmps37]; simp) ?_
  simp -implicitDefEqProofs only [go_sem, Tryz.f37]
  refine snd_draw (cs := []) mixed (by kernel_rfl) ?_
  have hz : s.size = pre.length + l.length := by rw [size_list]; have := congrArg List.length hs; simpa [str] using this
  have hex : (s.extract pre.length s.size).data.toList = l := ext_end hs
  have hlt : id < h.length := (List.getElem?_eq_some_iff.1 hh).1
  have hget : ∀ x, (h.set id x)[id]? = some x := fun x => by rw [List.getElem?_set_self hlt]
  simp -implicitDefEqProofs only [go_sem, hh]
  refine ⟨⟨by omega, by omega⟩, ?_⟩
  refine vPC_of (VPure.toD (HasPrefix (s.extract pre.length s.size) w)) rfl ?_
  simp only [Int.toNat_natCast, hex]
  simp -implicitDefEqProofs only [go_sem, hh]
  refine ⟨fun c => hD (by simpa [str] using c) _ _ Keep.refl, fun c => fun _ => ?_⟩
  have c : w.data.toList.isPrefixOf l = true := by simpa using c
  obtain ⟨t, ht⟩ := List.isPrefixOf_iff_prefix.1 c
  have e : IntKind.i64.wrap ((pre.length : Int) + w.size) = (((pre ++ str w).length : Nat) : Int) := by
    have h1 := congrArg List.length ht
    rw [List.length_append, ← size_list] at h1
    have h2 : (str w).length = w.size := size_list.symm
    rw [Go.Vg.wrap_small (by omega) (by omega), List.length_append, h2]
    simp
  rw [e]
  exact hK t ht.symm
theorem RDnumber {D : List VObj → List Nat → Prop} {h : List VObj} {a : List Nat} {id : Nat} {s : ByteArray} {pre l : List UInt8} {K : Cont} (hsz : s.size ≤ 1000000000) (hh : h[id]? = some (.cells [.str s, .int .i64 pre.length])) (hs : str s = pre ++ l) (hD : numP l = none → ∀ h' a', Keep id h h' → D h' a')
    (hK : ∀ n rest, numP l = some (n, rest) → K (.int .i64 n) (h.set id (.cells [.str s, .int .i64 ((pre ++ l.takeWhile isDig).length : Nat)])) a) : VCalls (envD D) 38 [.ptr id 0] h a K := by
  refine vcalls_snd (fn := Tryz.f38) Tryz.func38 rfl (by rw [Tryz.ntmps38]; simp) ?_
  simp only [Tryz.f38]
  have hz : s.size = pre.length + l.length := by rw [size_list]; have := congrArg List.length hs; simpa [str] using this
  have hlt : id < h.length := (List.getElem?_eq_some_iff.1 hh).1
  have hget : ∀ x, (h.set id x)[id]? = some x := fun x => by rw [List.getElem?_set_self hlt]
  refine snd_cut ⟨[(0, .ptr id 0)], h, a⟩ (by simp -implicitDefEqProofs only [go_sem]) ?_
  refine snd_cut ⟨[(3, .int .i64 pre.length), (0, .ptr id 0)], h, a⟩ (by simp -implicitDefEqProofs only [go_sem, hh]) ?_
  refine snd_cut ⟨[(3, .int .i64 pre.length), (0, .ptr id 0)], h.set id (.cells [.str s, .int .i64 ((pre ++ l.takeWhile isDig).length : Nat)]), a⟩ ?_ ?_
  · simp -implicitDefEqProofs only [go_sem]
    refine snd_for (α := List UInt8 × List UInt8) (fun x => ⟨[(3, .int .i64 pre.length), (0, .ptr id 0)], h.set id (.cells [.str s, .int .i64 ((pre ++ x.1).length : Nat)]), a⟩)
      (fun x => l = x.1 ++ x.2 ∧ ∀ c ∈ x.1, isDig c = true) (fun x => x.2.length) ([], l) ?_ ⟨rfl, by simp⟩ ?_
    · simp -implicitDefEqProofs only [go_sem, set_same hh]
    · rintro ⟨x, r⟩ ⟨hl, hx⟩
      simp only at hl hx
      simp -implicitDefEqProofs only [go_sem]
      refine snd_draw (cs := []) mixed (by kernel_rfl) ?_
      cases r with
      | nil =>
        have hb : ¬ (((pre ++ x).length : Nat) : Int) < s.size := by rw [hz, hl]; simp
        have e := (tw_eq (x := x) (r := []) hx (by simp)).1
        rw [← hl] at e
        simp -implicitDefEqProofs only [go_sem, hget, List.set_set, List.length_set, hb, e]
      | cons y r =>
        have hb : (((pre ++ x).length : Nat) : Int) < s.size := by rw [hz, hl]; simp; omega
        have hby := byteAt_mid (s := s) (pre := pre ++ x) (post := r) (x := y) (by rw [List.append_assoc, ← hl]; exact hs)
        have hd : isDig y = false → l.takeWhile isDig = x := fun h => by
          have := (tw_eq (x := x) (r := y :: r) hx (by rintro c t ⟨⟩; exact h)).1
          rw [← hl] at this
          exact this
        simp -implicitDefEqProofs only [go_sem, hget, List.set_set, List.length_set, hb, hby]
        refine ⟨fun c1 => ⟨fun c2 => ⟨(x ++ [y], r), by simp, ⟨by simp [hl], ?_⟩, ?_⟩, fun c2 => ?_⟩, fun c1 => ?_⟩
        · intro c hc
          rcases List.mem_append.1 hc with h | h
          · exact hx c h
          · rw [List.mem_singleton.1 h]; simp [isDig]; omega
        · rw [wrap_next (by rw [hz, hl] at hsz; simp at hsz ⊢; omega)]
          have : (pre ++ x).length + 1 = (pre ++ (x ++ [y])).length := by simp; omega
          rw [this, tellH_same]
          trivial
        · rw [hd (by simp [isDig]; omega), tellH_same]; trivial
        · rw [hd (by simp [isDig]; omega), tellH_same]; trivial
  have htd : l.takeWhile isDig ++ l.dropWhile isDig = l := List.takeWhile_append_dropWhile
  have hnum : ∀ v, Lib.atoiAll (l.takeWhile isDig) = .ok v → Lib.itoa v = l.takeWhile isDig → numP l = some (v, l.dropWhile isDig) := fun v h1 h2 => by
    unfold numP; rw [h1]; simp only; rw [if_pos h2]
  have hno : (∀ v, Lib.atoiAll (l.takeWhile isDig) = .ok v → Lib.itoa v ≠ l.takeWhile isDig) → numP l = none := fun hn => by
    unfold numP
    split
    · rename_i v hv
      rw [if_neg (hn v hv)]
    · rfl
  generalize hx : l.takeWhile isDig = x at *
  generalize hy : l.dropWhile isDig = y at *
  have hex : s.extract pre.length (pre ++ x).length = toB x := ba_ext (by
    rw [toB_list]
    exact ext_mid (r := y) (by rw [List.append_assoc, htd]; exact hs))
  have hle : (((pre ++ x).length : Nat) : Int) ≤ s.size := by rw [hz, ← htd]; simp; omega
  have hge : (pre.length : Int) ≤ (((pre ++ x).length : Nat) : Int) := by simp; omega
  have hxs : (toB x).size ≤ 1000000000 := by rw [toB_size]; simp at hle; omega
  have hkeep : ∀ z, Keep id h (h.set id z) := fun z => Keep.set
  refine vc_snd _ _ _ ?_
  simp -implicitDefEqProofs only [go_sem]
  refine snd_draw (cs := []) mixed (by kernel_rfl) ?_
  simp -implicitDefEqProofs only [go_sem, hget]
  refine ⟨⟨hge, hle⟩, ?_⟩
  simp only [Int.toNat_natCast, hex]
  refine vPC_of (VPure.toD (Atoi (toB x) hxs)) rfl ?_
  unfold atoiV
  rw [show str (toB x) = x from rfl]
  rcases hat : Lib.atoiAll x with v | _ | _
  · obtain ⟨b1, b2⟩ := Lib.atoiAll_bounds hat
    have zv := itoaB_size v b1 b2
    simp only
    simp -implicitDefEqProofs only [go_sem, hget]
    refine snd_draw (cs := []) mixed (by kernel_rfl) ?_
    simp -implicitDefEqProofs only [go_sem, hget]
    refine vPC_of (VPure.toD (Itoa v b1 b2 (by omega))) rfl ?_
    simp -implicitDefEqProofs only [go_sem, hget]
    refine ⟨⟨hge, hle⟩, ?_⟩
    simp only [Int.toNat_natCast, hex]
    refine ⟨fun c => hD (hno (by rw [hat]; rintro v ⟨⟩ h2; exact (by simpa using c : ¬ itoaB _ = toB x) (congrArg toB h2))) _ _ (hkeep _), fun c => ?_⟩
    have c : itoaB v = toB x := by simpa using c
    exact hK v y (hnum v hat (by have := congrArg (fun b => b.data.toList) c; exact this))
  · simp only
    simp -implicitDefEqProofs only [go_sem, hget]
    refine snd_draw (cs := []) mixed (by kernel_rfl) ?_
    simp -implicitDefEqProofs only [go_sem]
    exact hD (hno (by rw [hat]; rintro v ⟨⟩)) _ _ (hkeep _)
  · simp only
    simp -implicitDefEqProofs only [go_sem, hget]
    refine snd_draw (cs := []) mixed (by kernel_rfl) ?_
    simp -implicitDefEqProofs only [go_sem]
    exact hD (hno (by rw [hat]; rintro v ⟨⟩)) _ _ (hkeep _)
end Go.Proofs.YtellnbgljmocgaaGreatDoor
namespace Go.Vg
/-- What is left of a text. -/
def Suf (s : ByteArray) (l : List UInt8) : Prop := ∃ pre, str s = pre ++ l
theorem Suf.drop {s : ByteArray} {m l : List UInt8} (h : Suf s (m ++ l)) : Suf s l := by
  obtain ⟨pre, h⟩ := h
  exact ⟨pre ++ m, by simp [h]⟩
theorem Suf.word {s : ByteArray} {w l r : List UInt8} (h : Suf s l) (hw : wordP w l = some r) : Suf s r := by
  rw [wordP_some hw] at h; exact h.drop
theorem Suf.num {s : ByteArray} {l r : List UInt8} {n : Int} (h : Suf s l) (hw : numP l = some (n, r)) : Suf s r := by
  rw [(numP_some hw).1] at h; exact h.drop
theorem Suf.text {s : ByteArray} {l r t : List UInt8} (h : Suf s l) (hw : textP l = some (t, r)) : Suf s r := by
  rw [textP_some hw] at h; exact h.drop
theorem Suf.le {s : ByteArray} {l : List UInt8} (h : Suf s l) : l.length ≤ s.size := by
  obtain ⟨pre, h⟩ := h
  have := congrArg List.length h
  rw [size_list]
  simp [str] at this ⊢
  omega
theorem Suf.pos {s : ByteArray} {pre l : List UInt8} (h : str s = pre ++ l) : pre.length = s.size - l.length := by
  have := congrArg List.length h
  rw [size_list]
  simp [str] at this ⊢
  omega
/-- A reader, before what is left. -/
def rdr (s : ByteArray) (l : List UInt8) : VObj := .cells [.str s, .int .i64 ((s.size - l.length : Nat))]
theorem hD_set {D : List VObj → List Nat → Prop} {h : List VObj} {id : Nat} {x : VObj} (hD : ∀ h' a', Keep id h h' → D h' a') : ∀ h' a', Keep id (h.set id x) h' → D h' a' :=
  fun h' a' hk => hD h' a' (Keep.trans (by simp) Keep.set hk)
theorem set_get {h : List VObj} {id : Nat} {x y : VObj} (hh : h[id]? = some y) : (h.set id x)[id]? = some x := by
  rw [List.getElem?_set_self (List.getElem?_eq_some_iff.1 hh).1]
end Go.Vg
namespace Go.Proofs.YtellnbgljmocgaaGreatDoor
open Go Go.Vg Go.Proofs
theorem RW {D : List VObj → List Nat → Prop} {h : List VObj} {a : List Nat} {id : Nat} {s w : ByteArray} {l : List UInt8} {K : Cont} (hsz : s.size ≤ 1000000000) (hh : h[id]? = some (rdr s l)) (hs : Suf s l) (hD : wordP (str w) l = none → ∀ h' a', Keep id h h' → D h' a')
    (hK : ∀ rest, wordP (str w) l = some rest → K (.tuple []) (h.set id (rdr s rest)) a) : VCalls (envD D) 37 [.ptr id 0, .str w] h a K := by
  obtain ⟨pre, hs⟩ := hs
  rw [rdr, ← Suf.pos hs] at hh
  refine RDword hsz hh hs (fun hp => hD (by unfold wordP; rw [if_neg (by simp [hp])])) fun rest hr => ?_
  have := Suf.pos (pre := pre ++ str w) (l := rest) (s := s) (by rw [List.append_assoc, ← hr]; exact hs)
  rw [this]
  exact hK rest (by rw [hr, wordP_app])
theorem RN {D : List VObj → List Nat → Prop} {h : List VObj} {a : List Nat} {id : Nat} {s : ByteArray} {l : List UInt8} {K : Cont} (hsz : s.size ≤ 1000000000) (hh : h[id]? = some (rdr s l)) (hs : Suf s l) (hD : numP l = none → ∀ h' a', Keep id h h' → D h' a')
    (hK : ∀ n rest, numP l = some (n, rest) → K (.int .i64 n) (h.set id (rdr s rest)) a) : VCalls (envD D) 38 [.ptr id 0] h a K := by
  obtain ⟨pre, hs⟩ := hs
  rw [rdr, ← Suf.pos hs] at hh
  refine RDnumber hsz hh hs hD fun n rest hn => ?_
  have hr : l.takeWhile isDig ++ rest = l := by
    have : rest = l.dropWhile isDig := by
      unfold numP at hn
      split at hn
      · split at hn
        · cases hn; rfl
        · cases hn
      · cases hn
    rw [this]; exact List.takeWhile_append_dropWhile
  have := Suf.pos (pre := pre ++ l.takeWhile isDig) (l := rest) (s := s) (by rw [List.append_assoc, hr]; exact hs)
  rw [this]
  exact hK n rest hn
theorem RT {D : List VObj → List Nat → Prop} {h : List VObj} {a : List Nat} {id : Nat} {s : ByteArray} {l : List UInt8} {K : Cont} (hsz : s.size ≤ 1000000000) (hh : h[id]? = some (rdr s l)) (hs : Suf s l) (hD : textP l = none → ∀ h' a', Keep id h h' → D h' a')
    (hK : ∀ t rest, textP l = some (t, rest) → K (.str (toB t)) (h.set id (rdr s rest)) a) : VCalls (envD D) 39 [.ptr id 0] h a K := by
  refine vcalls_vc (fn := Tryz.f39) Tryz.func39 rfl (by rw [Tryz.ntmps39]; simp) ?_
  simp -implicitDefEqProofs only [go_sem, Tryz.f39]
  refine RN hsz hh hs (fun hn => hD (by simp [textP, hn])) fun n r1 hn => ?_
  simp -implicitDefEqProofs only [go_sem]
  refine RW hsz (set_get hh) (hs.num hn) (fun hw => hD_set (hD (by rw [show str ⟨#[58]⟩ = [58] from rfl] at hw; simp [textP, hn, hw]))) fun rest hr => ?_
  have hget : ∀ x, (h.set id x)[id]? = some x := fun x => set_get hh
  rw [show str ⟨#[58]⟩ = [58] from rfl] at hr
  have hs2 := (hs.num hn).word hr
  have hn0 := (numP_some hn).2
  have hle := hs2.le
  obtain ⟨pre, hpre⟩ := hs2
  have hpos := Suf.pos hpre
  have hw1 : IntKind.i64.wrap ((s.size : Int) - ((s.size - rest.length : Nat) : Int)) = rest.length := by
    rw [Go.Vg.wrap_small (by omega) (by omega)]; omega
  simp -implicitDefEqProofs only [go_sem, hget, List.set_set, rdr]
  refine snd_draw (cs := []) mixed (by kernel_rfl) ?_
  simp -implicitDefEqProofs only [go_sem, hget, List.set_set, hw1]
  refine ⟨fun c => hD (by simp only [textP, hn, hr, Option.bind_eq_bind, Option.bind_some]; rw [if_neg (by omega)]) _ _ Keep.set, fun c => ?_⟩
  have hw2 : IntKind.i64.wrap (((s.size - rest.length : Nat) : Int) + n) = ((s.size - (rest.drop n.toNat).length : Nat) : Int) := by
    rw [Go.Vg.wrap_small (by omega) (by omega), List.length_drop]; omega
  have hw3 : IntKind.i64.wrap (((s.size - (rest.drop n.toNat).length : Nat) : Int) - n) = (pre.length : Int) := by
    rw [List.length_drop, Go.Vg.wrap_small (by omega) (by omega)]; omega
  have hle2 : (pre.length : Int) ≤ ((s.size - (rest.drop n.toNat).length : Nat) : Int) := by rw [List.length_drop]; omega
  have hle3 : ((s.size - (rest.drop n.toNat).length : Nat) : Int) ≤ s.size := by omega
  have hex : s.extract pre.length (s.size - (rest.drop n.toNat).length) = toB (rest.take n.toNat) := ba_ext (by
    rw [toB_list]
    have := ext_mid (s := s) (l0 := pre) (cur := rest.take n.toNat) (r := rest.drop n.toNat) (by rw [List.append_assoc, List.take_append_drop]; exact hpre)
    rw [Suf.pos (pre := pre ++ rest.take n.toNat) (l := rest.drop n.toNat) (s := s) (by rw [List.append_assoc, List.take_append_drop]; exact hpre)] at this
    exact this)
  rw [hw2]
  refine snd_draw (cs := []) mixed (by kernel_rfl) ?_
  simp -implicitDefEqProofs only [go_sem, hget, hw3]
  refine ⟨⟨hle2, hle3⟩, ?_⟩
  simp only [Int.toNat_natCast, hex]
  refine hK _ _ ?_
  simp only [textP, hn, hr, Option.bind_eq_bind, Option.bind_some]
  rw [if_pos (by omega)]
end Go.Proofs.YtellnbgljmocgaaGreatDoor
