/- Drawing regions: where what comes next is apart from all others it is walked alone; elsewhere every order. -/
import Derived.Test.YtamednbojpnalaaGreatDoorVgR
set_option linter.unusedVariables false
namespace Go.Vg
/-- The orders: at a place, the operations that may come next, each with what may follow. -/
inductive Tr where
  | stop
  | br (i : Nat) (t o : Tr)
def Tr.heads : Tr → List Nat
  | .stop => []
  | .br i _ o => i :: o.heads
/-- Are these the orders? -/
def Tr.ok (ops : List Oper) : Nat → Array Bool → Tr → Bool
  | 0, _, .stop => true
  | 0, _, .br _ _ _ => false
  | _ + 1, _, .stop => true
  | n + 1, listed, .br i t o => Region.ready .any ops.toArray (listed.setIfInBounds i true) == t.heads && t.ok ops n (listed.setIfInBounds i true) && o.ok ops (n + 1) listed
def trOK (ops : List Oper) (t : Tr) : Bool := Region.ready .any ops.toArray (Array.replicate ops.length false) == t.heads && t.ok ops ops.length (Array.replicate ops.length false)
/-- The states behind. -/
def kAt (d : Option Nat) (M : St → Prop) (tm : List (Nat × V)) : Cont := fun v h a => M (St.put ⟨tm, h, a⟩ d v)
mutual
def trAlt (E : Env) (n : Nat) (ops : List Oper) (cs : List Nat) (Q : St → Prop) : Tr → St → Prop
  | .stop, _ => True
  | .br i t o, s => dAt E n ops cs i (trRun E n ops cs Q t) s ∧ trAlt E n ops cs Q o s
def trRun (E : Env) (n : Nat) (ops : List Oper) (cs : List Nat) (Q : St → Prop) : Tr → St → Prop
  | .stop, s => Q s
  | .br i t o, s => dAt E n ops cs i (trRun E n ops cs Q t) s ∧ trAlt E n ops cs Q o s
end
theorem tr_any {E : Env} {n : Nat} {ops : List Oper} {cs : List Nat} {Q : St → Prop} : ∀ (t : Tr) (fuel : Nat) (listed : Array Bool) (s : St), t.ok ops fuel listed = true →
    (Region.ready .any ops.toArray listed = t.heads → trRun E n ops cs Q t s → anyV E n ops cs Q fuel listed s) ∧ (trAlt E n ops cs Q t s → ∀ i ∈ t.heads, ∀ f, fuel = f + 1 → dAt E n ops cs i (anyV E n ops cs Q f (listed.setIfInBounds i true)) s)
  | .stop, fuel, listed, s, _ => by
    refine ⟨fun hr h => ?_, fun _ i hi => by simp [Tr.heads] at hi⟩
    rw [trRun] at h
    cases fuel with
    | zero => exact ⟨hr, h⟩
    | succ f => exact ⟨fun _ => h, fun i hi => by rw [hr] at hi; simp [Tr.heads] at hi⟩
  | .br i t o, 0, listed, s, hok => by simp [Tr.ok] at hok
  | .br i t o, f + 1, listed, s, hok => by
    simp only [Tr.ok, Bool.and_eq_true, beq_iff_eq] at hok
    obtain ⟨⟨h1, h2⟩, h3⟩ := hok
    have key : dAt E n ops cs i (trRun E n ops cs Q t) s → trAlt E n ops cs Q o s → ∀ j ∈ Tr.heads (.br i t o), dAt E n ops cs j (anyV E n ops cs Q f (listed.setIfInBounds j true)) s := by
      intro ha hb j hj
      rcases List.mem_cons.1 hj with e | e
      · subst e
        exact dAt_mono ha fun s' hs' => (tr_any t f _ s' h2).1 h1 hs'
      · exact (tr_any o (f + 1) listed s h3).2 hb j e f rfl
    refine ⟨fun hr h => ?_, fun h j hj g hg => ?_⟩
    · rw [trRun] at h
      refine ⟨fun e => ?_, fun j hj => ?_⟩
      · rw [e] at hr; simp [Tr.heads] at hr
      · rw [hr] at hj
        exact key h.1 h.2 j hj
    · rw [trAlt] at h
      cases hg
      exact key h.1 h.2 j hj
theorem snd_tree {E : Env} {n : Nat} {ops : List Oper} {cs : List Nat} {hb ab : Nat} {s : St} {Q : VEx → St → Prop} {id : Nat} (t : Tr) (hm : E.P.follows .mixedOrders = true) (hB : trOK ops t = true)
    (h : trRun E n ops cs (Q .normal) t s) : Snd E hb ab n (.region id ops.toArray true) s Q := by
  intro B G a w h1 h2 h3 h4
  have h5 : Rel E G s B.w0 n a { w with drawn := w.drawn + 1 } := ⟨h4.rw.drew _, h4.rt, h4.df⟩
  refine wp_region_any hm ?_
  simp only [trOK, Bool.and_eq_true, beq_iff_eq] at hB
  have hany := (tr_any t ops.length _ s hB.2).1 hB.1 h
  have := anyV_sound (w0 := B.w0) (QQ := Mean E n B Q) ops.length _ s G a _ h5 hany (fun s' G' a' w' hq q2 q3 => .inl ⟨.normal, s', G', rfl, hq, h3.trans q2, q3⟩)
    fun ch a' w' q1 q2 => .inr ⟨ch, rfl, q1, q2.ext h3⟩
  simpa using this
section
variable {E : Env} {n : Nat} {ops : List Oper} {cs : List Nat} {Q : St → Prop}
@[go_sem] theorem trRun_stop {s : St} : trRun E n ops cs Q .stop s = Q s := by rw [trRun]
@[go_sem] theorem trAlt_stop {s : St} : trAlt E n ops cs Q .stop s = True := by rw [trAlt]
@[go_sem] theorem trRun_br {i : Nat} {t o : Tr} {s : St} : trRun E n ops cs Q (.br i t o) s = (dAt E n ops cs i (trRun E n ops cs Q t) s ∧ trAlt E n ops cs Q o s) := by rw [trRun]
@[go_sem] theorem trAlt_br {i : Nat} {t o : Tr} {s : St} : trAlt E n ops cs Q (.br i t o) s = (dAt E n ops cs i (trRun E n ops cs Q t) s ∧ trAlt E n ops cs Q o s) := by rw [trAlt]
def dOf (E : Env) (n : Nat) (ops : List Oper) (c : Bool) (M : St → Prop) (s : St) : Option Oper → Prop
  | none => M s
  | some o => dstB n o = true ∧ ∃ b, gst ops n o s.tmps = some b ∧ (b = true → vopD E c s o.op fun v h a => M (St.put ⟨s.tmps, h, a⟩ o.dst v)) ∧ (b = false → M (s.put o.dst (.tuple [])))
@[go_sem] theorem dAt_of {i : Nat} {M : St → Prop} {s : St} : dAt E n ops cs i M s = dOf E n ops (cs.contains i) M s ops[i]? := by
  unfold dAt dOf
  split <;> rename_i h <;> rw [h]
@[go_sem] theorem dOf_some {c : Bool} {M : St → Prop} {s : St} {dst : Option Nat} {op : Op} {ty : TypeId} {pos : String} {after : Array Edge} :
    dOf E n ops c M s (some ⟨dst, op, ty, pos, after, none⟩) = (dstB n ⟨dst, .move (.tmp 0), ty, pos, after, none⟩ = true ∧ vopD E c s op (kAt dst M s.tmps)) := by
  unfold dOf
  apply propext
  constructor
  · rintro ⟨h0, b, hb, h1, _⟩
    have : b = true := by
      have : gst ops n ⟨dst, op, ty, pos, after, none⟩ s.tmps = some true := rfl
      rw [this] at hb
      cases hb; rfl
    exact ⟨h0, h1 this⟩
  · rintro ⟨h0, h1⟩
    exact ⟨h0, true, rfl, fun _ => h1, fun e => by cases e⟩
@[go_sem] theorem kAt_some {M : St → Prop} {tm : List (Nat × V)} {d : Nat} {v : V} {h : List VObj} {a : List Nat} : kAt (some d) M tm v h a = M ⟨(d, v) :: tm, h, a⟩ := rfl
@[go_sem] theorem kAt_none {M : St → Prop} {tm : List (Nat × V)} {v : V} {h : List VObj} {a : List Nat} : kAt none M tm v h a = M ⟨tm, h, a⟩ := rfl
end
end Go.Vg
set_option linter.unusedVariables false
namespace Go.Vg
/-- The orders: at a place, one operation that is apart from all others, or all that may come next. -/
inductive Wk where
  | stop
  | one (i : Nat) (t : Wk)
  | br (i : Nat) (t o : Wk)
def Wk.heads : Wk → List Nat
  | .stop => []
  | .one _ _ => []
  | .br i _ o => i :: o.heads
def Wk.ok (ops : List Oper) (cs : List Nat) : Bool → Nat → Array Bool → Wk → Bool
  | true, _, l, .stop => (Region.ready .any ops.toArray l).isEmpty
  | false, _, _, .stop => true
  | true, f + 1, l, .one i t => (Region.ready .any ops.toArray l).contains i && okAll ops cs l i && t.ok ops cs true f (l.setIfInBounds i true)
  | b, f + 1, l, .br i t o => (!b || Region.ready .any ops.toArray l == i :: o.heads) && (Region.ready .any ops.toArray l).contains i && t.ok ops cs true f (l.setIfInBounds i true) && o.ok ops cs false (f + 1) l
  | _, _, _, _ => false
def wkOK (ops : List Oper) (cs : List Nat) (t : Wk) : Bool := t.ok ops cs true ops.length (Array.replicate ops.length false)
mutual
def wkAlt (E : Env) (n : Nat) (ops : List Oper) (cs : List Nat) (Q : St → Prop) : Wk → St → Prop
  | .stop, _ => True
  | .one _ _, _ => False
  | .br i t o, s => dAt E n ops cs i (wkRun E n ops cs Q t) s ∧ wkAlt E n ops cs Q o s
def wkRun (E : Env) (n : Nat) (ops : List Oper) (cs : List Nat) (Q : St → Prop) : Wk → St → Prop
  | .stop, s => Q s
  | .one i t, s => dAt E n ops cs i (wkRun E n ops cs Q t) s
  | .br i t o, s => dAt E n ops cs i (wkRun E n ops cs Q t) s ∧ wkAlt E n ops cs Q o s
end
theorem wk_any {E : Env} {n : Nat} {ops : List Oper} {cs : List Nat} {Q : St → Prop} (hQ : ∀ s t, St.eqv s t → Q s → Q t) : ∀ (t : Wk) (fuel : Nat) (l : Array Bool) (s : St), Closed ops l → l.size = ops.length →
    (t.ok ops cs true fuel l = true → wkRun E n ops cs Q t s → anyV E n ops cs Q fuel l s) ∧
    (t.ok ops cs false fuel l = true → wkAlt E n ops cs Q t s → ∀ i ∈ t.heads, ∀ f, fuel = f + 1 → dAt E n ops cs i (anyV E n ops cs Q f (l.setIfInBounds i true)) s)
  | .stop, fuel, l, s, hcl, hsz => by
    refine ⟨fun hr h => ?_, fun _ _ i hi => by simp [Wk.heads] at hi⟩
    simp only [Wk.ok, List.isEmpty_iff] at hr
    rw [wkRun] at h
    cases fuel with
    | zero => exact ⟨hr, h⟩
    | succ f => exact ⟨fun _ => h, fun i hi => by rw [hr] at hi; cases hi⟩
  | .one i t, 0, l, s, hcl, hsz => ⟨fun h => by simp [Wk.ok] at h, fun h => by simp [Wk.ok] at h⟩
  | .br i t o, 0, l, s, hcl, hsz => ⟨fun h => by simp [Wk.ok] at h, fun h => by simp [Wk.ok] at h⟩
  | .one i t, fuel + 1, l, s, hcl, hsz => by
    refine ⟨fun hok h => ?_, fun hok => by simp [Wk.ok] at hok⟩
    simp only [Wk.ok, Bool.and_eq_true] at hok
    obtain ⟨⟨hr, ho⟩, hB'⟩ := hok
    have hr' : i ∈ Region.ready .any ops.toArray l := by simpa using hr
    rw [wkRun] at h
    unfold okAll at ho
    cases hk : ops[i]? with
    | none => rw [hk] at ho; cases ho
    | some ok =>
      rw [hk] at ho
      simp only [List.all_eq_true, List.mem_range] at ho
      refine first hQ hk fuel l s hcl hsz (fun j oj hj hjk hun hno => ?_) hr' (dAt_mono h fun u hu => (wk_any hQ t fuel _ u (closed_set hcl hr') (by simpa using hsz)).1 hB' hu)
      have := ho j (List.getElem?_eq_some_iff.1 hj).1
      simp only [hj, Bool.or_eq_true, beq_iff_eq, hjk, false_or, hun, Bool.false_eq_true, hno, Bool.and_eq_true] at this
      exact this
  | .br i t o, f + 1, l, s, hcl, hsz => by
    have key : ∀ b, (Wk.br i t o).ok ops cs b (f + 1) l = true → dAt E n ops cs i (wkRun E n ops cs Q t) s → wkAlt E n ops cs Q o s → ∀ j ∈ Wk.heads (.br i t o), dAt E n ops cs j (anyV E n ops cs Q f (l.setIfInBounds j true)) s := by
      intro b hok ha hb j hj
      have hok' : ((Region.ready .any ops.toArray l).contains i = true ∧ t.ok ops cs true f (l.setIfInBounds i true) = true) ∧ o.ok ops cs false (f + 1) l = true := by
        cases b <;> simp only [Wk.ok, Bool.and_eq_true] at hok
        · exact ⟨⟨hok.1.1.2, hok.1.2⟩, hok.2⟩
        · exact ⟨⟨hok.1.1.2, hok.1.2⟩, hok.2⟩
      obtain ⟨⟨hr, ht⟩, ho⟩ := hok'
      have hr' : i ∈ Region.ready .any ops.toArray l := by simpa using hr
      rcases List.mem_cons.1 hj with e | e
      · subst e
        exact dAt_mono ha fun s' hs' => (wk_any hQ t f _ s' (closed_set hcl hr') (by simpa using hsz)).1 ht hs'
      · exact (wk_any hQ o (f + 1) l s hcl hsz).2 ho hb j e f rfl
    refine ⟨fun hok h => ?_, fun hok h j hj g hg => ?_⟩
    · rw [wkRun] at h
      have hh : Region.ready .any ops.toArray l = i :: o.heads := by
        simp only [Wk.ok, Bool.and_eq_true, Bool.not_true, Bool.false_or, beq_iff_eq] at hok
        exact hok.1.1.1
      refine ⟨fun e => (by rw [hh] at e; cases e), fun j hj => ?_⟩
      rw [hh] at hj
      exact key true hok h.1 h.2 j hj
    · rw [wkAlt] at h
      cases hg
      exact key false hok h.1 h.2 j hj
theorem wk_mono {E : Env} {n : Nat} {ops : List Oper} {cs : List Nat} {Q R : St → Prop} (hQ : ∀ s, Q s → R s) : ∀ (t : Wk) (s : St), (wkRun E n ops cs Q t s → wkRun E n ops cs R t s) ∧ (wkAlt E n ops cs Q t s → wkAlt E n ops cs R t s)
  | .stop, s => by simp only [wkRun, wkAlt]; exact ⟨hQ s, fun h => h⟩
  | .one i t, s => by
    simp only [wkRun, wkAlt]
    exact ⟨fun h => dAt_mono h fun u hu => (wk_mono hQ t u).1 hu, fun h => h⟩
  | .br i t o, s => by
    simp only [wkRun, wkAlt]
    exact ⟨fun h => ⟨dAt_mono h.1 fun u hu => (wk_mono hQ t u).1 hu, (wk_mono hQ o s).2 h.2⟩, fun h => ⟨dAt_mono h.1 fun u hu => (wk_mono hQ t u).1 hu, (wk_mono hQ o s).2 h.2⟩⟩
theorem snd_walk {E : Env} {n : Nat} {ops : List Oper} {cs : List Nat} {hb ab : Nat} {s : St} {Q : VEx → St → Prop} {id : Nat} (t : Wk) (hm : E.P.follows .mixedOrders = true) (hB : wkOK ops cs t = true)
    (h : wkRun E n ops cs (Q .normal) t s) : Snd E hb ab n (.region id ops.toArray true) s Q := by
  intro B G a w h1 h2 h3 h4
  have h5 : Rel E G s B.w0 n a { w with drawn := w.drawn + 1 } := ⟨h4.rw.drew _, h4.rt, h4.df⟩
  refine wp_region_any hm ?_
  have hany := (wk_any (E := E) (n := n) (cs := cs) (Q := fun s => ∃ t, St.eqv t s ∧ Q .normal t) (fun s t he ⟨u, hu, hq⟩ => ⟨u, ⟨fun i => (hu.1 i).trans (he.1 i), hu.2.1.trans he.2.1, hu.2.2.trans he.2.2⟩, hq⟩) t ops.length (Array.replicate ops.length false) s
    (fun j o ho hj => by
      have : (Array.replicate ops.length false).getD j false = false := by simp [Array.getD_eq_getD_getElem?, Array.getElem?_replicate]; split <;> rfl
      rw [this] at hj; cases hj) (by simp)).1 hB ((wk_mono (fun u hu => ⟨u, .refl _, hu⟩) t s).1 h)
  have := anyV_sound (w0 := B.w0) (QQ := Mean E n B Q) ops.length _ s G a _ h5 hany (fun s' G' a' w' ⟨t, ht, hq⟩ q2 q3 => .inl ⟨.normal, t, G', rfl, hq, by rw [ht.2.2]; exact h3.trans q2, ⟨by rw [ht.2.1, ht.2.2]; exact q3.rw, ⟨fun i => by
      show RV _ _ _ (look t.tmps i) _
      rw [ht.1 i, ht.2.2]; exact q3.rt.tm i, q3.rt.sz⟩, q3.df⟩⟩)
    fun ch a' w' q1 q2 => .inr ⟨ch, rfl, q1, q2.ext h3⟩
  simpa using this
section
variable {E : Env} {n : Nat} {ops : List Oper} {cs : List Nat} {Q : St → Prop}
@[go_sem] theorem wkRun_stop {s : St} : wkRun E n ops cs Q .stop s = Q s := by rw [wkRun]
@[go_sem] theorem wkAlt_stop {s : St} : wkAlt E n ops cs Q .stop s = True := by rw [wkAlt]
@[go_sem] theorem wkRun_one {i : Nat} {t : Wk} {s : St} : wkRun E n ops cs Q (.one i t) s = dAt E n ops cs i (wkRun E n ops cs Q t) s := by rw [wkRun]
@[go_sem] theorem wkRun_br {i : Nat} {t o : Wk} {s : St} : wkRun E n ops cs Q (.br i t o) s = (dAt E n ops cs i (wkRun E n ops cs Q t) s ∧ wkAlt E n ops cs Q o s) := by rw [wkRun]
@[go_sem] theorem wkAlt_br {i : Nat} {t o : Wk} {s : St} : wkAlt E n ops cs Q (.br i t o) s = (dAt E n ops cs i (wkRun E n ops cs Q t) s ∧ wkAlt E n ops cs Q o s) := by rw [wkAlt]
end
end Go.Vg
