/- A function that defers a call: a panic found with the values that the function's own slots hold. -/
import Derived.Test.YtellnbgljmocgaaGreatDoorVgR
import Derived.Recover
set_option linter.unusedVariables false
namespace Go.Vg
open Go.RowKit

/-- A panic's state, some of the function's slots told. -/
def DiesT (E : Env) (G : Gh) (arr : List Nat) (w0 : Base) (n : Nat) (pins : List (Nat × V)) (ch : List PanicEntry) (a' : Act) (w' : World) : Prop :=
  (∃ t v, ch = [{ v := .iface t v, recovered := false }]) ∧ ∃ heap' arr' G', E.die heap' arr' ∧ Ext G arr G' arr' ∧ RelW E G' heap' arr' w0 w' ∧ RelT E.P G' arr' pins n a'
theorem DiesT.ext {E : Env} {G G' : Gh} {arr arr' : List Nat} {w0 : Base} {n : Nat} {pins : List (Nat × V)} {ch : List PanicEntry} {a' : Act} {w' : World} (h : DiesT E G' arr' w0 n pins ch a' w') (hx : Ext G arr G' arr') : DiesT E G arr w0 n pins ch a' w' := by
  obtain ⟨h1, heap', b', G'', h2, h3, h4⟩ := h
  exact ⟨h1, heap', b', G'', h2, hx.trans h3, h4⟩

def pinO (pins : List (Nat × V)) (o : Oper) : Bool := match o.dst with
  | some d => pins.all fun p => p.1 != d
  | none => true
theorem look_pin {d : Nat} : ∀ {pins : List (Nat × V)}, (pins.all fun p => p.1 != d) = true → look pins d = .junk := by
  intro pins
  induction pins with
  | nil => intro _; rfl
  | cons p r ih =>
    intro h
    simp only [List.all_cons, Bool.and_eq_true, bne_iff_ne, ne_eq] at h
    obtain ⟨j, x⟩ := p
    simp only [look]
    rw [if_neg (fun e => h.1 e.symm)]
    exact ih h.2
theorem RelT.pin {P : Program} {G : Gh} {arr : List Nat} {pins : List (Nat × V)} {n : Nat} {a : Act} {o : Oper} {v : Value} (h : RelT P G arr pins n a) (hp : pinO pins o = true) (hd : dstB n o = true) : RelT P G arr pins n (a.put o.dst v) := by
  unfold pinO at hp
  unfold dstB at hd
  cases hdst : o.dst with
  | none => exact h
  | some d =>
    rw [hdst] at hp hd
    simp only [decide_eq_true_eq] at hp hd
    have := h.put hd (x := .junk) (v := v) (.junk _)
    refine ⟨fun i => ?_, this.sz⟩
    have hi := this.tm i
    simp only [look] at hi
    split at hi
    · rename_i e
      subst e
      rw [look_pin hp]
      exact .junk _
    · exact hi

theorem vops_soundP {E : Env} {n : Nat} {ops : List Oper} {w0 : Base} {pins : List (Nat × V)} {QQ : Exit → Act → World → Prop} : ∀ (l : List Oper) (k : Nat) (s : St) (Q : St → Prop) (G : Gh) (a : Act) (w : World),
    (∀ j, l[j]? = ops[k + j]?) → Rel E G s w0 n a w → RelT E.P G s.arr pins n a → (l.all (pinO pins)) = true → vops E n ops l s Q → (∀ s' G' a' w', Q s' → Ext G s.arr G' s'.arr → Rel E G' s' w0 n a' w' → QQ .normal a' w') →
    (∀ ch a' w', a'.defers = w0.dfs → DiesT E G s.arr w0 n pins ch a' w' → QQ (.panic ch) a' w') →
    wpOps E.P ops.toArray QQ (List.range' k l.length) a w := by
  intro l
  induction l with
  | nil => intro k s Q G a w _ hr _ _ h hq _; exact hq s G a w h (Ext.refl _ _) hr
  | cons o l ih =>
    intro k s Q G a w hl hr hpin hpo h hq hdi
    obtain ⟨hd, hg⟩ := h
    rw [List.all_cons, Bool.and_eq_true] at hpo
    obtain ⟨hpo, hpl⟩ := hpo
    have h0 : ops.toArray[k]? = some o := by have := hl 0; simp at this; simpa using this.symm
    have hl' : ∀ j, l[j]? = ops[k + 1 + j]? := fun j => by have := hl (j + 1); simpa [Nat.add_assoc, Nat.add_comm 1 j] using this
    simp only [List.length_cons, List.range'_succ, wpOps, h0]
    have run : ∀ t : St, t.arr = s.arr → Rel E G t w0 n a w → Region.wanted o (yielded ops.toArray a.tmps) = true →
        (vop E t o.op fun v heap' arr' => vops E n ops l (St.put ⟨t.tmps, heap', arr'⟩ o.dst v) Q) →
        (if Region.wanted o (yielded ops.toArray a.tmps) = true then o.wp E.P a w (wpOps E.P ops.toArray QQ (List.range' (k + 1) l.length)) QQ ∨ (o.asks E.P a w ∧ LetsOut QQ)
          else wpOps E.P ops.toArray QQ (List.range' (k + 1) l.length) (a.put o.dst undef) w) := by
      intro t hta htr hw hrun
      rw [if_pos hw]
      refine .inl ((vop_out htr.rw htr.rt hrun).wp (fun ch w' hh => hdi ch a w' hr.df ?_) fun v val heap' arr' G' w' g1 g2 g3 g4 => ?_)
      · rw [hta] at hh
        obtain ⟨h1, heap', b', G'', h2, h3, h4⟩ := hh
        exact ⟨h1, heap', b', G'', h2, h3, h4, hpin.mono h3⟩
      · have hx : Ext G s.arr G' (St.put ⟨t.tmps, heap', arr'⟩ o.dst v).arr := by rw [← hta]; simpa using g2
        exact ih (k + 1) _ Q G' _ w' hl' (Rel.put htr.rt htr.df hd g2 g3 g4) ((hpin.pin hpo hd).mono hx) hpl g1 (fun s' G'' a' w'' q1 q2 q3 => hq s' G'' a' w'' q1 (by rw [← hta]; exact g2.trans (by simpa using q2)) q3)
          fun ch a' w'' q1 q2 => hdi ch a' w'' q1 (q2.ext (by rw [← hta]; simpa using g2))
    cases hgu : o.guard with
    | none =>
      rw [hgu] at hg
      exact run s rfl hr (by unfold Region.wanted; rw [hgu]) hg
    | some p =>
      obtain ⟨j, want⟩ := p
      rw [hgu] at hg
      simp only at hg
      split at hg
      case h_2 => exact hg.elim
      rename_i d hdo
      obtain ⟨hdn, hg⟩ := hg
      split at hg
      case h_3 => exact hg.elim
      case h_2 =>
        rename_i hlu
        rw [if_neg (by rw [wanted_undef hr.rt hgu hdo hdn hlu]; simp)]
        exact ih (k + 1) _ Q G _ w hl' (Rel.put (o := o) (v := .tuple []) (val := undef) hr.rt hr.df hd (Ext.refl _ _) hr.rw RV.undef) (by simpa using hpin.pin hpo hd) hpl hg (fun s' G'' a' w'' q1 q2 q3 => hq s' G'' a' w'' q1 (by simpa using q2) q3)
          fun ch a' w'' q1 q2 => hdi ch a' w'' q1 (by simpa using q2)
      rename_i b hlb
      have hwant := wanted_of (ops := ops) hr.rt hgu hdo hlb
      by_cases e : b = want
      · subst e
        exact run ⟨(d, .bool b) :: s.tmps, s.heap, s.arr⟩ rfl ⟨hr.rw, hr.rt.again hlb, hr.df⟩ (by rw [hwant]; simp) (hg.1 rfl)
      · have e' : b = !want := by cases b <;> cases want <;> simp_all
        have hf : Region.wanted o (yielded ops.toArray a.tmps) = false := by rw [hwant]; simpa using e
        rw [if_neg (by simp [hf])]
        have hr' : Rel E G ⟨(d, .bool (!want)) :: s.tmps, s.heap, s.arr⟩ w0 n a w := ⟨hr.rw, hr.rt.again (e' ▸ hlb), hr.df⟩
        refine ih (k + 1) _ Q G _ w hl' (Rel.put (o := o) (v := .tuple []) (val := undef) hr'.rt hr'.df hd (Ext.refl _ _) hr'.rw RV.undef) (by simpa using hpin.pin hpo hd) hpl (hg.2 e') (fun s' G'' a' w'' q1 q2 q3 => hq s' G'' a' w'' q1 (by simpa using q2) q3)
          fun ch a' w'' q1 q2 => hdi ch a' w'' q1 (by simpa using q2)

def Mean2P (E : Env) (n : Nat) (B : Fn0) (pins : List (Nat × V)) (e : Exit) (a : Act) (w : World) : Prop :=
  ∃ ch, e = .panic ch ∧ a.defers = B.w0.dfs ∧ DiesT E B.G B.arr B.w0 n pins ch a w
/-- As Snd; of a panic some slots are told. -/
def SndP (E : Env) (hb ab n : Nat) (pins : List (Nat × V)) (c : Code) (s : St) (Q : VEx → St → Prop) : Prop :=
  ∀ (B : Fn0) (G : Gh) (a : Act) (w : World), B.G.φ.length = hb → B.arr.length = ab → Ext B.G B.arr G s.arr → Rel E G s B.w0 n a w → c.wp E.P (fun e a w => Mean1 E n B Q e a w ∨ Mean2P E n B pins e a w) a w

section
variable {E : Env} {hb ab n : Nat} {pins : List (Nat × V)} {s : St} {Q : VEx → St → Prop}
theorem RelT.toPins {P : Program} {G : Gh} {arr : List Nat} {tm : List (Nat × V)} {n : Nat} {a : Act} (h : RelT P G arr tm n a) (hp : ∀ i, look pins i = .junk ∨ look pins i = look tm i) : RelT P G arr pins n a :=
  ⟨fun i => by rcases hp i with e | e; (· rw [e]; exact .junk _); (· rw [e]; exact h.tm i), h.sz⟩
theorem pins_of : ∀ {pins : List (Nat × V)} {tm : List (Nat × V)}, (∀ p ∈ pins, look tm p.1 = p.2) → ∀ i, look pins i = .junk ∨ look pins i = look tm i := by
  intro pins tm
  induction pins with
  | nil => intro _ i; exact .inl rfl
  | cons p r ih =>
    intro h i
    obtain ⟨j, x⟩ := p
    simp only [look]
    split
    · rename_i e; subst e; exact .inr (h (i, x) (by simp)).symm
    · exact ih (fun q hq => h q (by simp [hq])) i
/-- The told slots hold what is told. -/
def pinned (tm : List (Nat × V)) : List (Nat × V) → Prop
  | [] => True
  | p :: r => look tm p.1 = p.2 ∧ pinned tm r
theorem pinned_all {tm : List (Nat × V)} : ∀ {pins : List (Nat × V)}, pinned tm pins → ∀ p ∈ pins, look tm p.1 = p.2 := by
  intro pins
  induction pins with
  | nil => intro _ p hp; cases hp
  | cons q r ih =>
    intro h p hp
    rcases List.mem_cons.1 hp with rfl | hp
    · exact h.1
    · exact ih h.2 p hp
theorem sndP_region {id : Nat} {ops : Array Oper} (hp : pinned s.tmps pins) (ho : (ops.toList.all (pinO pins)) = true) (h : vops E n ops.toList ops.toList s (Q .normal)) : SndP E hb ab n pins (.region id ops false) s Q := by
  intro B G a w h1 h2 h3 h4
  have := vops_soundP (QQ := fun e a w => Mean1 E n B Q e a w ∨ Mean2P E n B pins e a w) (pins := pins) ops.toList 0 s _ G a w (by simp) h4 (h4.rt.toPins (pins_of (pinned_all hp))) ho h (fun s' G' a' w' q1 q2 q3 => .inl ⟨.normal, s', G', rfl, q1, h3.trans q2, q3⟩)
    fun ch a' w' q1 q2 => .inr ⟨ch, rfl, q1, q2.ext h3⟩
  refine wp_region ?_
  simpa [List.range_eq_range'] using this
/-- What follows. -/
def kseqP (E : Env) (hb ab n : Nat) (pins : List (Nat × V)) (y : Code) (Q : VEx → St → Prop) : VEx → St → Prop
  | .normal, s => SndP E hb ab n pins y s Q
  | e, s => Q e s
@[go_sem] theorem kseqP_normal {y : Code} : kseqP E hb ab n pins y Q .normal s = SndP E hb ab n pins y s Q := rfl
@[go_sem] theorem kseqP_ret {y : Code} : kseqP E hb ab n pins y Q .ret s = Q .ret s := rfl
theorem sndP_seq {x y : Code} (h : SndP E hb ab n pins x s (kseqP E hb ab n pins y Q)) : SndP E hb ab n pins (.seq x y) s Q := by
  intro B G a w h1 h2 h3 h4
  refine wp_seq (wp_mono (h B G a w h1 h2 h3 h4) fun e a' w' hm => ?_)
  rcases hm with ⟨ve, s', G', rfl, g2, g3, g4⟩ | ⟨ch, rfl, hm⟩
  · cases ve with
    | normal => exact g2 B G' a' w' h1 h2 g3 g4
    | exit id => exact .inl ⟨.exit id, s', G', rfl, g2, g3, g4⟩
    | ret => exact .inl ⟨.ret, s', G', rfl, g2, g3, g4⟩
  · exact .inr ⟨ch, rfl, hm⟩
theorem sndP_cond {c : Operand} {x y : Code} {b : Bool} (hc : ev E s.tmps c = .bool b) (hx : b = true → SndP E hb ab n pins x s Q) (hy : b = false → SndP E hb ab n pins y s Q) : SndP E hb ab n pins (.cond c x y) s Q := by
  intro B G a w h1 h2 h3 h4
  have hv := RV.ev h4.rw h4.rt c
  rw [hc] at hv
  generalize hvc : a.eval c = v at hv
  cases hv
  exact wp_cond_split hvc (fun hb => hx hb B G a w h1 h2 h3 h4) fun hb => hy hb B G a w h1 h2 h3 h4
/-- Code that does not panic. -/
theorem sndP_of {c : Code} (h : Snd E.alive hb ab n c s Q) : SndP E hb ab n pins c s Q := by
  intro B G a w h1 h2 h3 h4
  refine wp_mono (h B G a w h1 h2 h3 ⟨h4.rw.al, h4.rt, h4.df⟩) fun e a' w' hm => ?_
  rcases hm with ⟨ve, s', G', g1, g2, g3, g4⟩ | ⟨ch, _, _, _, heap', arr', G', hd, _⟩
  · exact .inl ⟨ve, s', G', g1, g2, g3, g4.rw.unal, g4.rt, g4.df⟩
  · exact hd.elim
end
end Go.Vg
