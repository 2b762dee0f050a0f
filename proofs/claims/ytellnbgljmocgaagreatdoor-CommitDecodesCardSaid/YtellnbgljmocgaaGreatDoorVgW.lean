/- Drawing regions, every order walked: for calls that turn something which stands beside what others read. -/
import Derived.Test.YtellnbgljmocgaaGreatDoorVgR
set_option linter.unusedVariables false
namespace Go.Vg
/-- The orders: at a place, the operations that may come next, each with what may follow. -/
inductive Tr where
  | stop
  | br (i : Nat) (t o : Tr)
def Tr.heads : Tr → List Nat
  | .stop => []
  | .br i _ o => i :: o.heads
/-- Are these the orders? -/
def Tr.ok (ops : List Oper) : Nat → Array Bool → Tr → Bool
  | 0, _, .stop => true
  | 0, _, .br _ _ _ => false
  | _ + 1, _, .stop => true
  | n + 1, listed, .br i t o => Region.ready .any ops.toArray (listed.setIfInBounds i true) == t.heads && t.ok ops n (listed.setIfInBounds i true) && o.ok ops (n + 1) listed
def trOK (ops : List Oper) (t : Tr) : Bool := Region.ready .any ops.toArray (Array.replicate ops.length false) == t.heads && t.ok ops ops.length (Array.replicate ops.length false)
/-- The states behind. -/
def kAt (d : Option Nat) (M : St → Prop) (tm : List (Nat × V)) : Cont := fun v h a => M (St.put ⟨tm, h, a⟩ d v)
mutual
def trAlt (E : Env) (n : Nat) (ops : List Oper) (cs : List Nat) (Q : St → Prop) : Tr → St → Prop
  | .stop, _ => True
  | .br i t o, s => dAt E n ops cs i (trRun E n ops cs Q t) s ∧ trAlt E n ops cs Q o s
def trRun (E : Env) (n : Nat) (ops : List Oper) (cs : List Nat) (Q : St → Prop) : Tr → St → Prop
  | .stop, s => Q s
  | .br i t o, s => dAt E n ops cs i (trRun E n ops cs Q t) s ∧ trAlt E n ops cs Q o s
end
theorem tr_any {E : Env} {n : Nat} {ops : List Oper} {cs : List Nat} {Q : St → Prop} : ∀ (t : Tr) (fuel : Nat) (listed : Array Bool) (s : St), t.ok ops fuel listed = true →
    (Region.ready .any ops.toArray listed = t.heads → trRun E n ops cs Q t s → anyV E n ops cs Q fuel listed s) ∧ (trAlt E n ops cs Q t s → ∀ i ∈ t.heads, ∀ f, fuel = f + 1 → dAt E n ops cs i (anyV E n ops cs Q f (listed.setIfInBounds i true)) s)
  | .stop, fuel, listed, s, _ => by
    refine ⟨fun hr h => ?_, fun _ i hi => by simp [Tr.heads] at hi⟩
    rw [trRun] at h
    cases fuel with
    | zero => exact ⟨hr, h⟩
    | succ f => exact ⟨fun _ => h, fun i hi => by rw [hr] at hi; simp [Tr.heads] at hi⟩
  | .br i t o, 0, listed, s, hok => by simp [Tr.ok] at hok
  | .br i t o, f + 1, listed, s, hok => by
    simp only [Tr.ok, Bool.and_eq_true, beq_iff_eq] at hok
    obtain ⟨⟨h1, h2⟩, h3⟩ := hok
    have key : dAt E n ops cs i (trRun E n ops cs Q t) s → trAlt E n ops cs Q o s → ∀ j ∈ Tr.heads (.br i t o), dAt E n ops cs j (anyV E n ops cs Q f (listed.setIfInBounds j true)) s := by
      intro ha hb j hj
      rcases List.mem_cons.1 hj with e | e
      · subst e
        exact dAt_mono ha fun s' hs' => (tr_any t f _ s' h2).1 h1 hs'
      · exact (tr_any o (f + 1) listed s h3).2 hb j e f rfl
    refine ⟨fun hr h => ?_, fun h j hj g hg => ?_⟩
    · rw [trRun] at h
      refine ⟨fun e => ?_, fun j hj => ?_⟩
      · rw [e] at hr; simp [Tr.heads] at hr
      · rw [hr] at hj
        exact key h.1 h.2 j hj
    · rw [trAlt] at h
      cases hg
      exact key h.1 h.2 j hj
theorem snd_tree {E : Env} {n : Nat} {ops : List Oper} {cs : List Nat} {hb ab : Nat} {s : St} {Q : VEx → St → Prop} {id : Nat} (t : Tr) (hm : E.P.follows .mixedOrders = true) (hB : trOK ops t = true)
    (h : trRun E n ops cs (Q .normal) t s) : Snd E hb ab n (.region id ops.toArray true) s Q := by
  intro B G a w h1 h2 h3 h4
  have h5 : Rel E G s B.w0 n a { w with drawn := w.drawn + 1 } := ⟨h4.rw.drew _, h4.rt, h4.df⟩
  refine wp_region_any hm ?_
  simp only [trOK, Bool.and_eq_true, beq_iff_eq] at hB
  have hany := (tr_any t ops.length _ s hB.2).1 hB.1 h
  have := anyV_sound (w0 := B.w0) (QQ := Mean E n B Q) ops.length _ s G a _ h5 hany (fun s' G' a' w' hq q2 q3 => .inl ⟨.normal, s', G', rfl, hq, h3.trans q2, q3⟩)
    fun ch a' w' q1 q2 => .inr ⟨ch, rfl, q1, q2.ext h3⟩
  simpa using this
section
variable {E : Env} {n : Nat} {ops : List Oper} {cs : List Nat} {Q : St → Prop}
@[go_sem] theorem trRun_stop {s : St} : trRun E n ops cs Q .stop s = Q s := by rw [trRun]
@[go_sem] theorem trAlt_stop {s : St} : trAlt E n ops cs Q .stop s = True := by rw [trAlt]
@[go_sem] theorem trRun_br {i : Nat} {t o : Tr} {s : St} : trRun E n ops cs Q (.br i t o) s = (dAt E n ops cs i (trRun E n ops cs Q t) s ∧ trAlt E n ops cs Q o s) := by rw [trRun]
@[go_sem] theorem trAlt_br {i : Nat} {t o : Tr} {s : St} : trAlt E n ops cs Q (.br i t o) s = (dAt E n ops cs i (trRun E n ops cs Q t) s ∧ trAlt E n ops cs Q o s) := by rw [trAlt]
def dOf (E : Env) (n : Nat) (ops : List Oper) (c : Bool) (M : St → Prop) (s : St) : Option Oper → Prop
  | none => M s
  | some o => dstB n o = true ∧ ∃ b, gst ops n o s.tmps = some b ∧ (b = true → vopD E c s o.op fun v h a => M (St.put ⟨s.tmps, h, a⟩ o.dst v)) ∧ (b = false → M (s.put o.dst (.tuple [])))
@[go_sem] theorem dAt_of {i : Nat} {M : St → Prop} {s : St} : dAt E n ops cs i M s = dOf E n ops (cs.contains i) M s ops[i]? := by
  unfold dAt dOf
  split <;> rename_i h <;> rw [h]
@[go_sem] theorem dOf_some {c : Bool} {M : St → Prop} {s : St} {dst : Option Nat} {op : Op} {ty : TypeId} {pos : String} {after : Array Edge} :
    dOf E n ops c M s (some ⟨dst, op, ty, pos, after, none⟩) = (dstB n ⟨dst, .move (.tmp 0), ty, pos, after, none⟩ = true ∧ vopD E c s op (kAt dst M s.tmps)) := by
  unfold dOf
  apply propext
  constructor
  · rintro ⟨h0, b, hb, h1, _⟩
    have : b = true := by
      have : gst ops n ⟨dst, op, ty, pos, after, none⟩ s.tmps = some true := rfl
      rw [this] at hb
      cases hb; rfl
    exact ⟨h0, h1 this⟩
  · rintro ⟨h0, h1⟩
    exact ⟨h0, true, rfl, fun _ => h1, fun e => by cases e⟩
@[go_sem] theorem kAt_some {M : St → Prop} {tm : List (Nat × V)} {d : Nat} {v : V} {h : List VObj} {a : List Nat} : kAt (some d) M tm v h a = M ⟨(d, v) :: tm, h, a⟩ := rfl
@[go_sem] theorem kAt_none {M : St → Prop} {tm : List (Nat × V)} {v : V} {h : List VObj} {a : List Nat} : kAt none M tm v h a = M ⟨tm, h, a⟩ := rfl
end
end Go.Vg
