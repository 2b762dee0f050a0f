/- Decoding a commit: a panic caught. -/
import Derived.Test.YtellnbgljmocgaaGreatDoorTcJ
import Derived.Test.YtellnbgljmocgaaGreatDoorVgX
import Derived.WalkKit
set_option linter.unusedVariables false
set_option linter.unusedSimpArgs false
set_option maxRecDepth 20000
namespace Go.Proofs.YtellnbgljmocgaaGreatDoor
open Go Go.Vg Go.Proofs Go.RowKit
/-- The closure, run when nothing panics. -/
theorem catch_idle (p q r : Addr) (w : World) : CallsD Tryz.prog 13 #[.pointer (some p), .pointer (some q), .pointer (some r)] .returning w fun e u' w' => e = .returned (.tuple #[]) ∧ u' = .returning ∧ w' = w := by
  refine callsD_of_wpS Tryz.func13 rfl fun c₀ cs hu => ?_
  apply wpS_seq
  apply wpS_region
  simp [wpOpsS, go_sem, recoverD, hu, Tryz.ntmps13, Exit.thenS]
  refine wpS_cond (t := false) (by simp [Act.eval, Array.replicate]) ?_
  simp only [Bool.false_eq_true, if_false]
  refine wpS_of_wp (wp_skip ?_)
  cases c₀
  simp_all [bodyPostS, results, Exit.thenS, Tryz.f13, go_sem]
/-- The closure's stores. -/
theorem catch_stores {a0 a1 a2 a3 a4 b c : V} {rest : List VObj} {arr : List Nat} {v : V} : Snd env (rest.length + 3) arr.length 6 (Code.region 1
        #[{ dst := some 5, op := Op.build 27 #[], type := 27, pos := "commit.go:156", after := #[], guard := none },
          { dst := none, op := Op.store 27 (Operand.tmp 0) (Operand.tmp 5), type := 0, pos := "commit.go:156",
            after := #[{ on := 0, ground := Ground.data }, { on := 0, ground := Ground.phase }], guard := none },
          { dst := none, op := Op.store 3 (Operand.tmp 1) (Operand.const (Value.int IntKind.i64 0)), type := 0,
            pos := "commit.go:156",
            after :=
              #[{ on := 1, ground := Ground.chain }, { on := 0, ground := Ground.phase },
                { on := 1, ground := Ground.phase }],
            guard := none },
          { dst := none, op := Op.store 28 (Operand.tmp 2) (Operand.const (Value.int IntKind.i64 1)), type := 0,
            pos := "commit.go:156",
            after :=
              #[{ on := 2, ground := Ground.chain }, { on := 0, ground := Ground.phase },
                { on := 1, ground := Ground.phase }, { on := 2, ground := Ground.phase }],
            guard := none }]
        false) ⟨[(2, .ptr 2 0), (1, .ptr 1 0), (0, .ptr 0 0)], .cells [a0, a1, a2, a3, a4] :: .cells [b] :: .cells [c] :: rest, arr⟩
      (fun e s => e = .normal ∧ s.heap = .cells [.int .i64 0, .slice .nil 0 [], .slice .nil 0 [], .str ⟨#[]⟩, .slice .nil 0 []] :: .cells [.int .i64 0] :: .cells [.int .i64 1] :: rest ∧ s.arr = arr) := by
  refine vc_snd _ _ _ ?_
  simp -implicitDefEqProofs only [go_sem]
/-- The closure, run in a panic: it is over, and the results are zero values and the error. -/
theorem catch_rec {D : List VObj → List Nat → Prop} {p q r : Nat} {w : World} {w0 : Base} {G : Gh} {t : TypeId} {v : Value} {a0 a1 a2 a3 a4 b c : V} {rest : List VObj} {arr : List Nat}
    (hr : RelW (envD D) G (.cells [a0, a1, a2, a3, a4] :: .cells [b] :: .cells [c] :: rest) arr w0 w) (hp : G.φ[0]? = some p) (hq : G.φ[1]? = some q) (hs : G.φ[2]? = some r) :
    CallsD Tryz.prog 13 #[.pointer (some ⟨p, 0, none⟩), .pointer (some ⟨q, 0, none⟩), .pointer (some ⟨r, 0, none⟩)] (.panicking [{ v := .iface t v, recovered := false }]) w fun e u' w' => e = .returned (.tuple #[]) ∧ settle u' = .returning ∧
      ∃ G', Ext G arr G' arr ∧ RelW (envD D) G' (.cells [.int .i64 0, .slice .nil 0 [], .slice .nil 0 [], .str ⟨#[]⟩, .slice .nil 0 []] :: .cells [.int .i64 0] :: .cells [.int .i64 1] :: rest) arr w0 w' := by
  refine callsD_of_wpS Tryz.func13 rfl fun c₀ cs hu => ?_
  apply wpS_seq
  apply wpS_region
  simp [wpOpsS, go_sem, recoverD, hu, Tryz.ntmps13, Exit.thenS]
  refine wpS_cond (t := true) (by simp [Act.eval, Array.replicate]) ?_
  simp only [if_true]
  have h0 := catch_stores (a0 := a0) (a1 := a1) (a2 := a2) (a3 := a3) (a4 := a4) (b := b) (c := c) (rest := rest) (arr := arr) (v := b)
  refine wpS_of_wp (wp_mono (h0 ⟨{ w0 with dfs := [] }, G, arr⟩ G _ w (by rw [hr.lenφ]; rfl) rfl (Ext.refl _ _) ⟨(hr.base (w0 := w0) (w1 := { w0 with dfs := [] }) rfl rfl).al, ⟨fun i => ?_, rfl⟩, rfl⟩) fun e a' w' hm => ?_)
  · match i with
    | 0 => exact .ptr _ _ _ hp
    | 1 => exact .ptr _ _ _ hq
    | 2 => exact .ptr _ _ _ hs
    | n + 3 => exact .junk _
  · rcases hm with ⟨ve, s', G', rfl, ⟨rfl, q2, q3⟩, q4, q5⟩ | ⟨ch, _, _, _, heap', arr', G', hd, _⟩
    · obtain ⟨tm, h', r'⟩ := s'
      simp only at q2 q3
      subst q2; subst q3
      have e1 := q5.df
      simp only at e1
      have e2 := q5.rw.base (w0 := { w0 with dfs := [] }) (w1 := w0) rfl rfl
      have e3 : RelW (envD D) G' _ r' w0 w' := RelW.unal (E := envD D) e2
      cases c₀
      simp_all [bodyPostS, results, VEx.real, Tryz.f13, go_sem, settle]
      exact ⟨G', q4, e3⟩
    · exact hd.elim
def dA : VObj := .cells [.int .i64 0, .slice .nil 0 [], .slice .nil 0 [], .str ⟨#[]⟩, .slice .nil 0 []]
def dB : VObj := .cells [.int .i64 0]
/-- What a panic below Decode leaves. -/
def dD (n : Prop) : List VObj → List Nat → Prop := fun h _ => n ∧ ∃ a0 a1 a2 a3 a4 b c rest, h = .cells [a0, a1, a2, a3, a4] :: .cells [b] :: .cells [c] :: rest
def dpins : List (Nat × V) := [(4, .ptr 2 0), (3, .ptr 1 0), (2, .ptr 0 0)]
def trDec : Tr := (.br 0 (.br 1 (.br 2 (.br 3 (.br 4 (.br 5 (.br 6 (.br 7 .stop .stop) .stop) .stop) (.br 5 (.br 4 (.br 6 (.br 7 .stop .stop) .stop) .stop) .stop)) (.br 5 (.br 3 (.br 4 (.br 6 (.br 7 .stop .stop) .stop) .stop) .stop) .stop)) (.br 5 (.br 2 (.br 3 (.br 4 (.br 6 (.br 7 .stop .stop) .stop) .stop) .stop) .stop) .stop)) (.br 5 (.br 1 (.br 2 (.br 3 (.br 4 (.br 6 (.br 7 .stop .stop) .stop) .stop) .stop) .stop) .stop) .stop)) (.br 1 (.br 0 (.br 2 (.br 3 (.br 4 (.br 5 (.br 6 (.br 7 .stop .stop) .stop) .stop) (.br 5 (.br 4 (.br 6 (.br 7 .stop .stop) .stop) .stop) .stop)) (.br 5 (.br 3 (.br 4 (.br 6 (.br 7 .stop .stop) .stop) .stop) .stop) .stop)) (.br 5 (.br 2 (.br 3 (.br 4 (.br 6 (.br 7 .stop .stop) .stop) .stop) .stop) .stop) .stop)) (.br 2 (.br 0 (.br 3 (.br 4 (.br 5 (.br 6 (.br 7 .stop .stop) .stop) .stop) (.br 5 (.br 4 (.br 6 (.br 7 .stop .stop) .stop) .stop) .stop)) (.br 5 (.br 3 (.br 4 (.br 6 (.br 7 .stop .stop) .stop) .stop) .stop) .stop)) (.br 3 (.br 0 (.br 4 (.br 5 (.br 6 (.br 7 .stop .stop) .stop) .stop) (.br 5 (.br 4 (.br 6 (.br 7 .stop .stop) .stop) .stop) .stop)) (.br 4 (.br 0 (.br 5 (.br 6 (.br 7 .stop .stop) .stop) .stop) .stop) .stop)) .stop)) .stop)) .stop))
noncomputable def dA0 : Code := match Tryz.f5.body with | some (.seq a _) => a | _ => .skip
noncomputable def dA1 : Code := match Tryz.f5.body with | some (.seq _ (.seq a _)) => a | _ => .skip
noncomputable def dA2 : Code := match Tryz.f5.body with | some (.seq _ (.seq _ a)) => a | _ => .skip
theorem dBody : Tryz.f5.body = some (.seq dA0 (.seq dA1 dA2)) := rfl
theorem d0 (s : ByteArray) : Snd env 0 0 21 dA0 ⟨[(0, .str s)], [], []⟩ (fun e x => e = .normal ∧ x = ⟨[(4, .ptr 2 0), (3, .ptr 1 0), (2, .ptr 0 0), (0, .str s)], [dA, dB, dB], []⟩) := by
  simp only [dA0, Tryz.f5]
  refine vc_snd _ _ _ ?_
  simp -implicitDefEqProofs only [go_sem, dA, dB]
theorem d2 {parse : ByteArray → Option Rf} {s : ByteArray} (hsz : s.size ≤ 1000000000)
    (hP : ∀ id ps fs m no l, headP (str s) = some (id, ps, fs, m, no, l) → 0 < no → ∀ t : ByteArray, t.size ≤ s.size → VPure env 40 [.str t] (parseV (parse t)))
    (hok : ∀ c rest, commitP parse (str s) = some (c, rest) → c.ok) :
    SndP (envD (dD (decodeC parse s = none))) 3 0 21 dpins dA2 ⟨[(6, .junk), (4, .ptr 2 0), (3, .ptr 1 0), (2, .ptr 0 0), (0, .str s)], [dA, dB, dB], []⟩
      (kfin (envD (dD (decodeC parse s = none))) Tryz.f5.results.toList (kpure (decodeV parse s))) := by
  simp only [dA2, Tryz.f5]
  refine sndP_seq (sndP_of (show Snd env _ _ _ _ _ _ from vc_snd _ _ _ ?_))
  simp -implicitDefEqProofs only [go_sem, dA, dB]
  refine sndP_seq (sndP_region ⟨rfl, rfl, rfl, trivial⟩ rfl ?_)
  simp -implicitDefEqProofs only [go_sem]
  rw [show VObj.cells [V.str s, V.int IntKind.i64 0] = rdr s (str s) by rw [rdr, show s.size - (str s).length = 0 by rw [size_list]; exact Nat.sub_self _]; rfl]
  refine RC hsz (fun _ _ => rfl) (fun _ _ => rfl) (fun _ _ => rfl) (fun hn h' a' hk => ?_) hP fun c rest z hc => ?_
  · refine ⟨by simp only [decodeC, hn], ?_⟩
    have k0 := hk 0 (by decide) (by simp)
    have k1 := hk 1 (by decide) (by simp)
    have k2 := hk 2 (by decide) (by simp)
    match h', k0, k1, k2 with
    | x :: y :: u :: r, k0, k1, k2 =>
      simp only [List.getElem?_cons_zero, List.getElem?_cons_succ, Option.some.injEq] at k0 k1 k2
      subst k0; subst k1; subst k2
      exact ⟨_, _, _, _, _, _, _, r, rfl⟩
  have hcok := hok c rest hc
  have hdec : decodeC parse s = if cmErr c = 0 then some (c, rest) else none := by simp only [decodeC, hc]
  obtain ⟨c1, c2, c3, c4, c5⟩ := c
  simp -implicitDefEqProofs only [go_sem]
  refine sndP_seq (sndP_seq (sndP_region ⟨rfl, rfl, rfl, trivial⟩ rfl ?_))
  simp -implicitDefEqProofs only [go_sem]
  refine (VPure.toD (Ccheck _ hcok)).calls (by simp -implicitDefEqProofs only [go_sem]) ?_
  simp -implicitDefEqProofs only [go_sem]
  refine sndP_cond (b := !decide (cmErr ⟨c1, c2, c3, c4, c5⟩ = 0)) (by simp -implicitDefEqProofs only [go_sem]) (fun hb => ?_) (fun hb => ?_)
  · refine sndP_region ⟨rfl, rfl, rfl, trivial⟩ rfl ?_
    simp -implicitDefEqProofs only [go_sem]
    have hb : ¬ cmErr ⟨c1, c2, c3, c4, c5⟩ = 0 := by simpa using hb
    exact ⟨by rw [hdec, if_neg hb], _, _, _, _, _, _, _, _, rfl⟩
  · refine sndP_of (show Snd env _ _ _ _ _ _ from vc_snd _ _ _ ?_)
    simp -implicitDefEqProofs only [go_sem]
    refine sndP_of (show Snd env _ _ _ _ _ _ from vc_snd _ _ _ ?_)
    simp -implicitDefEqProofs only [go_sem]
    have hb : cmErr ⟨c1, c2, c3, c4, c5⟩ = 0 := by simpa using hb
    refine snd_tree (cs := []) trDec mixed (by kernel_rfl) ?_
    simp -implicitDefEqProofs only [go_sem, trDec, rdr]
    rw [decodeV, hdec, if_pos hb]
    rfl
theorem ptr_inv {P : Program} {G : Gh} {arr : List Nat} {id off : Nat} {v : Value} (h : RV P G arr (.ptr id off) v) : ∃ b, G.φ[id]? = some b ∧ v = .pointer (some ⟨b, off, none⟩) := by
  cases h
  exact ⟨_, ‹_›, rfl⟩
theorem decodeV_pure {parse : ByteArray → Option Rf} {s : ByteArray} : (decodeV parse s).pure = true := by
  unfold decodeV
  split
  · rename_i c r _
    obtain ⟨c1, c2, c3, c4, c5⟩ := c
    simp -implicitDefEqProofs only [go_sem]
  · simp -implicitDefEqProofs only [go_sem, noCm]
theorem Decode {parse : ByteArray → Option Rf} {s : ByteArray} (hsz : s.size ≤ 1000000000)
    (hP : ∀ id ps fs m no l, headP (str s) = some (id, ps, fs, m, no, l) → 0 < no → ∀ t : ByteArray, t.size ≤ s.size → VPure env 40 [.str t] (parseV (parse t)))
    (hok : ∀ c rest, commitP parse (str s) = some (c, rest) → c.ok) : VPure env 5 [.str s] (decodeV parse s) := by
  refine ⟨rfl, decodeV_pure, ?_⟩
  intro G w0 w vals hr ha
  have hv : ∃ v, vals = #[v] ∧ RV Tryz.prog G [] (.str s) v := by
    obtain ⟨l⟩ := vals
    match l, ha with
    | [v], ha => exact ⟨v, rfl, ha.2 0 _ v rfl rfl⟩
  obtain ⟨v, rfl, hv⟩ := hv
  have hrel : Rel env G ⟨[(0, .str s)], [], []⟩ { w0 with dfs := [] } 21 { tmps := #[v] ++ Array.replicate 20 undef, defers := [] } w := by
    refine ⟨hr.base (w0 := w0) (w1 := { w0 with dfs := [] }) rfl rfl, ⟨fun i => ?_, by simp⟩, rfl⟩
    match i with
    | 0 =>
      have e : (#[v] ++ Array.replicate 20 undef).getD 0 undef = v := by simp
      show RV _ _ _ (.str s) ((#[v] ++ Array.replicate 20 undef).getD 0 undef)
      rw [e]
      exact hv
    | i + 1 => exact .junk _
  have hw0 := d0 s ⟨{ w0 with dfs := [] }, G, []⟩ G _ w hr.lenφ rfl (Ext.refl _ _) hrel
  refine calls_of_wp_defers Tryz.func5 dBody ?_
  rw [Tryz.ntmps5]
  refine wp_seq (wp_mono hw0 fun e a1 w1 hm => ?_)
  rcases hm with ⟨ve, s1, G1, rfl, ⟨rfl, rfl⟩, hx1, hr1⟩ | ⟨ch, _, _, _, heap', arr', G', hd, _⟩
  case inr => exact hd.elim
  obtain ⟨b0, p0, t0⟩ := ptr_inv (hr1.rt.tm 2)
  obtain ⟨b1, p1, t1⟩ := ptr_inv (hr1.rt.tm 3)
  obtain ⟨b2, p2, t2⟩ := ptr_inv (hr1.rt.tm 4)
  have hs1 : a1.tmps.size = 21 := hr1.rt.sz
  have hdf : a1.defers = [] := hr1.df
  show (Code.seq dA1 dA2).wp Tryz.prog _ a1 w1
  generalize hPost : (bodyPostD env.alive.P Tryz.f5 fun e w' => Goes env.alive G [] w0 (fun r' x x_1 => r' = decodeV parse s) e w') = Post
  obtain ⟨tm1, df1⟩ := a1
  simp only at t0 t1 t2 hs1 hdf
  subst hdf
  refine wp_seq ?_
  simp only [dA1, Tryz.f5]
  refine wp_region ?_
  have hmf : ∀ (fn : Fn) (first cap : Array Value) (w : World), (Instr.makeFunc fn first cap).run Tryz.prog w = .ok (.func fn first cap) w := fun _ _ _ _ => rfl
  simp [wpOps, go_sem, Act.eval, t0, t1, t2, Exit.then, hs1, hmf]
  refine .inl (.inl ?_)
  generalize hd : ({ target := Target.fn (Fn.func 13) #[Value.pointer (some { block := b0, off := 0 }), Value.pointer (some { block := b1, off := 0 }), Value.pointer (some { block := b2, off := 0 })], args := #[] } : Deferred) = d
  have hrt : RelT Tryz.prog G1 [] [(6, .junk), (4, .ptr 2 0), (3, .ptr 1 0), (2, .ptr 0 0), (0, .str s)] 21 { tmps := tm1.setIfInBounds 6 (Value.func (Fn.func 13) #[] #[Value.pointer (some { block := b0, off := 0 }), Value.pointer (some { block := b1, off := 0 }), Value.pointer (some { block := b2, off := 0 })]), defers := [d] } := by
    have := hr1.rt.put (d := 6) (by decide) (x := .junk) (v := Value.func (Fn.func 13) #[] #[Value.pointer (some { block := b0, off := 0 }), Value.pointer (some { block := b1, off := 0 }), Value.pointer (some { block := b2, off := 0 })]) (.junk _)
    exact ⟨this.tm, this.sz⟩
  have hrw0 : RelW env G1 [dA, dB, dB] [] { w0 with dfs := [d] } w1 := RelW.base (w0 := { w0 with dfs := [] }) rfl rfl hr1.rw
  have hrw : RelW (envD (dD (decodeC parse s = none))) G1 [dA, dB, dB] [] { w0 with dfs := [d] } w1 := RelW.unal (E := envD (dD (decodeC parse s = none))) hrw0
  refine wp_mono (d2 hsz hP hok ⟨{ w0 with dfs := [d] }, G1, []⟩ G1 _ w1 hr1.rw.lenφ rfl (Ext.refl _ _) ⟨hrw, hrt, rfl⟩) fun e a2 w2 hm => ?_
  subst hPost
  rcases hm with ⟨ve, s', G', rfl, ⟨q1, q2⟩, q3, q4⟩ | ⟨ch, rfl, hdf, ⟨t, v', rfl⟩, heap', arr', G', hdie, hx, hrw', hrt'⟩
  · obtain ⟨u, val, g1, g2, g3⟩ := results_run q4 q2
    have fin : Leaves Tryz.prog Tryz.f5 a2.tmps (fun e w' => Goes env.alive G [] w0 (fun r' x x_1 => r' = decodeV parse s) e w') a2.defers .returning w2 := by
      rw [show a2.defers = [d] from q4.df, ← hd]
      refine leaves_cons (f := 13) (args := #[.pointer (some ⟨b0, 0, none⟩), .pointer (some ⟨b1, 0, none⟩), .pointer (some ⟨b2, 0, none⟩)]) (by simp) (by simp [go_sem]) ?_
      refine (catch_idle _ _ _ w2).mono ?_
      rintro e u' w'' ⟨rfl, rfl, rfl⟩
      have q5 : RelW (envD (dD (decodeC parse s = none))) G' s'.heap s'.arr w0 w'' := RelW.base (w0 := { w0 with dfs := [d] }) rfl rfl q4.rw
      exact ⟨val, g1, .inl ⟨val, rfl, share u, s'.heap, s'.arr, G', g2, hx1.trans q3, q5.al, g3.share⟩⟩
    cases ve with
    | normal => exact fin
    | ret => exact fin
    | exit id => exact absurd rfl (q1 id)
  · obtain ⟨hn, a0, a1, a2', a3, a4, b, c, rest, rfl⟩ := hdie
    show Leaves Tryz.prog Tryz.f5 a2.tmps (fun e w' => Goes env.alive G [] w0 (fun r' x x_1 => r' = decodeV parse s) e w') a2.defers (.panicking _) w2
    rw [show a2.defers = [d] from hdf, ← hd]
    refine leaves_cons (f := 13) (args := #[.pointer (some ⟨b0, 0, none⟩), .pointer (some ⟨b1, 0, none⟩), .pointer (some ⟨b2, 0, none⟩)]) (by simp) (by simp [go_sem]) ?_
    refine (catch_rec hrw' (hx.φ _ _ p0) (hx.φ _ _ p1) (hx.φ _ _ p2)).mono ?_
    rintro e u' w'' ⟨rfl, hu, G3, hx3, hrw3⟩
    simp only [hu]
    have q4 : Rel (envD (dD (decodeC parse s = none))) G3 ⟨dpins, .cells [.int .i64 0, .slice .nil 0 [], .slice .nil 0 [], .str ⟨#[]⟩, .slice .nil 0 []] :: .cells [.int .i64 0] :: .cells [.int .i64 1] :: rest, arr'⟩ { w0 with dfs := [d] } 21 { a2 with defers := [d] } w'' :=
      ⟨hrw3, ⟨(hrt'.mono hx3).tm, hrt'.sz⟩, rfl⟩
    have q2 : vres (envD (dD (decodeC parse s = none))) ⟨dpins, .cells [.int .i64 0, .slice .nil 0 [], .slice .nil 0 [], .str ⟨#[]⟩, .slice .nil 0 []] :: .cells [.int .i64 0] :: .cells [.int .i64 1] :: rest, arr'⟩ Tryz.f5.results.toList fun v => share v = decodeV parse s := by
      have : decodeV parse s = .tuple [.agg noCm.enc, .int .i64 0, .int .i64 1] := by rw [decodeV, hn]
      rw [this]
      have q : kfin (envD (dD (decodeC parse s = none))) Tryz.f5.results.toList (kpure (.tuple [.agg noCm.enc, .int .i64 0, .int .i64 1])) .ret ⟨dpins, .cells [.int .i64 0, .slice .nil 0 [], .slice .nil 0 [], .str ⟨#[]⟩, .slice .nil 0 []] :: .cells [.int .i64 0] :: .cells [.int .i64 1] :: rest, arr'⟩ := by
        simp -implicitDefEqProofs only [go_sem, dpins, noCm, Tryz.f5]
      exact q.2
    obtain ⟨u, val, g1, g2, g3⟩ := results_run q4 q2
    have q5 := RelW.base (w0 := { w0 with dfs := [d] }) (w1 := w0) rfl rfl hrw3
    exact ⟨val, g1, .inl ⟨val, rfl, share u, _, _, G3, g2, (hx1.trans hx).trans hx3, q5.al, g3.share⟩⟩
end Go.Proofs.YtellnbgljmocgaaGreatDoor
