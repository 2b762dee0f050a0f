/- The callables of a project, sorted. -/
import Derived.Test.YtamednbojpnalaaGreatDoorToS
set_option linter.unusedVariables false
set_option linter.unusedSimpArgs false
set_option maxRecDepth 20000
namespace Go.Vg
def vecK (P : Program) (r : V) : Cont := fun v h' _ => share v = r ∨ ∃ id k gen len e cs, v = .vec id k gen len e ∧ h'[id]? = some (.vec k gen e cs) ∧ 0 < cs.length ∧ elemOK P e = true ∧ len * P.cellsOf e ≤ cs.length ∧ sl e (chunk (P.cellsOf e) len cs) = r
theorem vpure_vec {E : Env} {f : FuncId} {args : List V} {r : V} (hp : pureL args = true) (hr : r.pure = true) (h : VCalls E f args [] [] (vecK E.P r)) (hal : E.alive = E := by exact rfl) : VPure E f args r := by
  refine ⟨hp, hr, ?_⟩
  rw [hal]
  intro G w0 w vals hrel ha
  refine (h G w0 w vals hrel ha).mono fun e' w' hg => ?_
  rcases hg with ⟨val, he, v, heap', arr', G', hv, hx, hr', hrv⟩ | hd
  · rcases hv with rfl | ⟨id, k, gen, len, e, cs, rfl, h1, h2, h3, h4, rfl⟩
    · exact .inl ⟨val, he, _, _, _, G', rfl, hx, hr', hrv.share⟩
    · obtain ⟨G'', b, hi, g1, g2, g3, g4, g5⟩ := hr'.freezeV h1 h2
      exact .inl ⟨val, he, _, _, _, G'', rfl, hx.trans g3, g4, hrv.thawV g2 g1 h3 h4 g5⟩
  · exact .inr hd
end Go.Vg
namespace Go.Proofs.YtamednbojpnalaaGreatDoor
open Go Go.Vg Go.Proofs
def encCs (l : List Cb) : List V := (l.map Cb.enc).flatten
theorem encCs_app (a b : List Cb) : encCs (a ++ b) = encCs a ++ encCs b := by simp [encCs]
theorem encCs_len : ∀ l : List Cb, (encCs l).length = l.length * 3
  | [] => rfl
  | x :: r => by
    have := encCs_len r
    have e : encCs (x :: r) = x.enc ++ encCs r := rfl
    rw [e, List.length_append, this, cb_len, List.length_cons]; omega
theorem chunkC : ∀ (l : List Cb), chunk 3 l.length (encCs l) = l.map Cb.enc
  | [] => rfl
  | x :: r => by
    have := chunkC r
    have e : encCs (x :: r) = x.enc ++ encCs r := rfl
    rw [List.length_cons, chunk, e, List.take_left' (by rfl), List.drop_left' (by rfl), this]
    rfl
/-- The state of the loop: as long as there is no callable, no list is made. -/
def stC (v : List Un) (dl : List Dl) (n : Nat) (acc : List Cb) (g : Nat) : St := match acc with
  | [] => ⟨[(17, .int .i64 n), (16, .int .i64 dl.length), (15, sl 61 (dl.map Dl.enc)), (5, .map 1), (4, .ptr 0 0), (3, sl 34 (v.map Un.enc)), (2, .slice .nil 0 [])], [.cells [.slice .nil 0 []], .map []], []⟩
  | c :: r => ⟨[(17, .int .i64 n), (16, .int .i64 dl.length), (15, sl 61 (dl.map Dl.enc)), (5, .map 1), (4, .ptr 0 0), (3, sl 34 (v.map Un.enc)), (2, .slice .nil 0 [])],
      [.cells [.vec 4 0 g (r.length + 1) 119], .map (seenM ((c :: r).map Cb.name)), .dead, .dead, .vec 0 g 119 (encCs (c :: r))], [g]⟩
theorem stC_nil {v : List Un} {dl : List Dl} {n g : Nat} {acc : List Cb} (h : acc = []) : stC v dl n acc g = ⟨[(17, .int .i64 n), (16, .int .i64 dl.length), (15, sl 61 (dl.map Dl.enc)), (5, .map 1), (4, .ptr 0 0), (3, sl 34 (v.map Un.enc)), (2, .slice .nil 0 [])], [.cells [.slice .nil 0 []], .map (seenM (acc.map Cb.name))], []⟩ := by subst h; rfl
theorem stC_cons {v : List Un} {dl : List Dl} {n g : Nat} {acc : List Cb} (h : acc ≠ []) : stC v dl n acc g = ⟨[(17, .int .i64 n), (16, .int .i64 dl.length), (15, sl 61 (dl.map Dl.enc)), (5, .map 1), (4, .ptr 0 0), (3, sl 34 (v.map Un.enc)), (2, .slice .nil 0 [])], [.cells [.vec 4 0 g acc.length 119], .map (seenM (acc.map Cb.name)), .dead, .dead, .vec 0 g 119 (encCs acc)], [g]⟩ := by
  cases acc with
  | nil => exact absurd rfl h
  | cons c r => rfl
theorem look_SV {tv : TypeId} {l : List ByteArray} {n : ByteArray} {K : V → Prop} : vLookF (envV tv) 4 (findV .string (.str n) (seenM l) 0) false K = K (.bool (l.any fun x => decide (x = n))) := look_S
@[go_sem] theorem cellsV_vec {i k g l : Nat} {e : TypeId} : cellsV (.vec i k g l e) = [.vec i k g l e] := rfl
@[go_sem] theorem some_vec {i k g l : Nat} {e : TypeId} : (V.vec i k g l e).some? = true := rfl
@[go_sem] theorem cell_vec {i k g l : Nat} {e : TypeId} : (V.vec i k g l e).cell = true := rfl
theorem encCs_lt {m n : Nat} : ∀ acc : List Cb, ltL m n (encCs acc) = true
  | [] => rfl
  | c :: r => by
    show (V.lt m n (.str c.name) && (V.lt m n (.str c.sign) && (V.lt m n (.str c.path) && ltL m n (encCs r)))) = true
    rw [encCs_lt r]
    simp [V.lt]
theorem vecLt {g n : Nat} (acc : List Cb) : (V.lt 5 1 (.vec 4 0 g n 119) && (true && VObj.lt 5 1 (.vec 0 g 119 (encCs acc)))) = true := by
  simp only [V.lt, VObj.lt, encCs_lt]
  decide
theorem addC_nodup {v : List Un} {acc : List Cb} {d : Dl} (h : acc.Pairwise fun a b => a.name ≠ b.name) : (addC v acc d).Pairwise fun a b => a.name ≠ b.name := by
  unfold addC
  split
  · rename_i hc
    split
    · rw [List.pairwise_append]
      refine ⟨h, by simp, fun a ha b hb => ?_⟩
      have hb' := List.mem_singleton.1 hb
      subst hb'
      have := List.any_eq_false.1 hc.2 a ha
      simpa using this
    · exact h
  · exact h
theorem calL_nodup (v : List Un) (l : List Dl) : (calL v l).Pairwise fun a b => a.name ≠ b.name := by
  have key : ∀ (l : List Dl) (acc : List Cb), (acc.Pairwise fun a b => a.name ≠ b.name) → (l.foldl (addC v) acc).Pairwise fun a b => a.name ≠ b.name := by
    intro l
    induction l with
    | nil => intro acc h; exact h
    | cons d r ih => intro acc h; exact ih _ (addC_nodup h)
  exact key l [] List.Pairwise.nil
theorem ScalAll (u : List Un) (hu : sgOK u) (hv : sgOK (u.map Un.sound)) (hS : ∀ d ∈ declsU (u.map Un.sound) 0, d.owner.size ≤ 3000000 ∧ d.name.size ≤ 1000000) : VPure env 69 [sl 34 (u.map Un.enc)] (sl 119 ((sortC (calL (u.map Un.sound) (declsU (u.map Un.sound) 0))).map Cb.enc)) := by
  have hD := PDecls (u.map Un.sound) hv.fit
  rw [declsPU_eq] at hD
  have hdl := declsU_len (u.map Un.sound) 0 fun y hy => (hv.fit.2 y hy).1
  have hul := hv.fit.1
  refine VPure.ofV (tv := 116) ?_
  refine vpure_vec (by simp -implicitDefEqProofs only [go_sem]; exact uns_pure _) (by simp -implicitDefEqProofs only [go_sem]) (vcalls_vc (fn := Tryz.f69) Tryz.func69 rfl (by rw [Tryz.ntmps69]; simp) ?_)
  simp -implicitDefEqProofs only [go_sem, Tryz.f69]
  refine (VPure.toV (tv := 116) (Ssound u hu.gaps hu.fit.1)).calls (by simp -implicitDefEqProofs only [go_sem]) ?_
  simp -implicitDefEqProofs only [go_sem]
  refine (VPure.toV (tv := 116) hD).calls (by simp -implicitDefEqProofs only [go_sem]) ?_
  simp -implicitDefEqProofs only [go_sem]
  intro _ _
  generalize hvv : u.map Un.sound = v at hv hdl hul hS ⊢
  have hat := declsU_at v 0
  generalize hdd : declsU v 0 = dl at hdl hS hat ⊢
  refine snd_list (β := Nat) dl (fun pre b => stC v dl pre.length (calL v pre) b) (fun _ _ _ => True) gen0 ?_ trivial ?_ ?_
  · rw [show calL v [] = [] from rfl, stC_nil rfl]
    simp -implicitDefEqProofs only [go_sem]
    exact ⟨rfl, rfl⟩
  · intro b _
    have hnd := calL_nodup v dl
    generalize calL v dl = acc at hnd ⊢
    by_cases hz : acc = []
    · rw [stC_nil hz]
      simp -implicitDefEqProofs only [go_sem]
      refine VCalls.toV (SortTiny (o := .nil) (e := 0) [] (by simp) _ _ _ _ _ ?_)
      simp -implicitDefEqProofs only [go_sem]
      subst hz
      exact .inl (by rw [show sortC [] = [] from List.mergeSort_nil]; rfl)
    · rw [stC_cons hz]
      simp -implicitDefEqProofs only [go_sem]
      refine SortVec (id := 4) (k := 0) (gen := b) (o := 0) (l := acc) rfl rfl (by cases acc with | nil => exact absurd rfl hz | cons _ _ => simp) hnd ?_
      simp -implicitDefEqProofs only [go_sem]
      have hsl : (sortC acc).length = acc.length := (sortC_perm acc).length_eq
      have hpos : 0 < acc.length := by cases acc with | nil => exact absurd rfl hz | cons _ _ => simp
      have hcl := encCs_len (sortC acc)
      refine .inr ⟨4, 0, b, _, _, encCs (sortC acc), rfl, rfl, by omega, by simp -implicitDefEqProofs only [go_sem], by simp -implicitDefEqProofs only [go_sem]; omega, ?_⟩
      simp -implicitDefEqProofs only [go_sem]
      rw [← hsl, chunkC]
  · rintro pre d post gb hx _
    have hpl : dl.length = pre.length + 1 + post.length := by rw [hx]; simp; omega
    have hgx : (dl.map Dl.enc).getD (pre.length : Int).toNat [] = d.enc := by rw [hx]; simp [List.getD_eq_getElem?_getD]
    have hw : IntKind.i64.wrap (↑pre.length + 1) = ↑(pre.length + 1) := wrap_next (by omega)
    have hlt : ((pre.length : Int) < dl.length) = True := by simp; omega
    have hsz := hS d (by rw [hx]; simp)
    obtain ⟨un, x, u1, u2, _, _⟩ := hat d (by rw [hx]; simp)
    have hpu : pathU v d.unit = x.path := by rw [pathU, u1, Nat.zero_add, Int.toNat_natCast, u2]
    have hu0 : (d.unit < 0) = False := by simp [u1]
    have hu1 : (d.unit < (v.length : Int)) = True := by
      have := (List.getElem?_eq_some_iff.1 u2).1
      simp [u1]; omega
    have hug : (v.map Un.enc).getD d.unit.toNat [] = x.enc := un_getD (by rw [u1, Nat.zero_add, Int.toNat_natCast]; exact u2)
    have e1 : (⟨#[46]⟩ : ByteArray).size = 1 := rfl
    have hsn : calL v (pre ++ [d]) = addC v (calL v pre) d := by simp [calL]
    have hsg := Tsig v hv.fit hv.gaps d.owner d.name fun z hz => hv.ok _ _ z hz
    have hacc : (calL v pre).length ≤ pre.length := calL_len v pre
    generalize calL v pre = acc at hsn hacc ⊢
    by_cases hz : acc = []
    · rw [stC_nil hz]
      by_cases h4 : d.kind = 4
      · have hnm : nameD d = d.owner ++ ⟨#[46]⟩ ++ d.name := by rw [nameD, if_pos h4]
        have hnn : (d.kind = 1) = False := by simp [h4]
        simp -implicitDefEqProofs only [go_sem, hgx, hlt, h4, look_SV]
        refine ⟨by simp only [List.size_toArray, List.length_cons, List.length_nil]; omega, by simp only [List.size_toArray, List.length_cons, List.length_nil]; omega, ?_⟩
        refine ⟨fun hb => ?_, fun hb => ?_⟩
        · have hac : addC v acc d = acc := by
            rw [addC, if_neg]
            rintro ⟨_, h⟩
            rw [hnm] at h
            rw [List.any_map] at hb
            exact absurd (show (acc.any fun c => decide (c.name = d.owner ++ ⟨#[46]⟩ ++ d.name)) = true from hb) (by rw [h]; simp)
          refine ⟨gb, ?_⟩
          rw [hsn, hac, stC_nil hz]
          simp -implicitDefEqProofs only [go_sem]
          rw [ltP_seen, ltLL_pure _ _ _ (dls_pure _), ltLL_pure _ _ _ (uns_pure _)]
          exact ⟨hw, .inr ⟨rfl, rfl⟩⟩
        · have hb2 : (acc.any fun c => decide (c.name = nameD d)) = false := by
            rw [hnm]
            rw [List.any_map] at hb
            exact hb
          refine (VPure.toV (tv := 116) hsg).calls (by simp -implicitDefEqProofs only [go_sem]) ?_
          cases hs : sigU v d.owner d.name with
          | none =>
            have hac : addC v acc d = acc := by rw [addC, if_pos ⟨.inr h4, hb2⟩, hs]
            simp -implicitDefEqProofs only [go_sem, encSig]
            refine ⟨gb, ?_⟩
            rw [hsn, hac, stC_nil hz]
            simp -implicitDefEqProofs only [go_sem]
            rw [ltP_seen, ltLL_pure _ _ _ (dls_pure _), ltLL_pure _ _ _ (uns_pure _)]
            exact ⟨hw, .inr ⟨rfl, rfl⟩⟩
          | some sg =>
            have hac : addC v acc d = acc ++ [⟨nameD d, signS sg, pathU v d.unit⟩] := by rw [addC, if_pos ⟨.inr h4, hb2⟩, hs]
            rw [hnm] at hac
            have hwr := Swrite sg (sig_short hv hs).1 (sig_short hv hs).2 (sig_res hv hs)
            simp -implicitDefEqProofs only [go_sem, encSig, set_S hb]
            refine snd_draw (cs := []) mixed (by kernel_rfl) ?_
            simp -implicitDefEqProofs only [go_sem, hug, hu0, hu1]
            refine vPC_of (VPure.toV (tv := 116) hwr) (by simp -implicitDefEqProofs only [go_sem]) ?_
            simp -implicitDefEqProofs only [go_sem, hug, hu0, hu1]
            refine ⟨by omega, by simp, gen0, ?_⟩
            rw [hsn, hac, stC_cons (by simp), hpu]
            simp -implicitDefEqProofs only [go_sem]
            subst hz
            exact ⟨hw, of_eq_true tell1_same, of_eq_true tellO_same⟩
      · by_cases h1 : d.kind = 1
        · have hnm : nameD d = d.name := by rw [nameD, if_neg h4]
          simp -implicitDefEqProofs only [go_sem, hgx, hlt, h1, look_SV]
          refine ⟨fun hb => ?_, fun hb => ?_⟩
          · have hac : addC v acc d = acc := by
              rw [addC, if_neg]
              rintro ⟨_, h⟩
              rw [hnm] at h
              rw [List.any_map] at hb
              exact absurd (show (acc.any fun c => decide (c.name = d.name)) = true from hb) (by rw [h]; simp)
            refine ⟨gb, ?_⟩
            rw [hsn, hac, stC_nil hz]
            simp -implicitDefEqProofs only [go_sem]
            rw [ltP_seen, ltLL_pure _ _ _ (dls_pure _), ltLL_pure _ _ _ (uns_pure _)]
            exact ⟨hw, .inr ⟨rfl, rfl⟩⟩
          · have hb2 : (acc.any fun c => decide (c.name = nameD d)) = false := by
              rw [hnm]
              rw [List.any_map] at hb
              exact hb
            refine (VPure.toV (tv := 116) hsg).calls (by simp -implicitDefEqProofs only [go_sem]) ?_
            cases hs : sigU v d.owner d.name with
            | none =>
              have hac : addC v acc d = acc := by rw [addC, if_pos ⟨.inl h1, hb2⟩, hs]
              simp -implicitDefEqProofs only [go_sem, encSig]
              refine ⟨gb, ?_⟩
              rw [hsn, hac, stC_nil hz]
              simp -implicitDefEqProofs only [go_sem]
              rw [ltP_seen, ltLL_pure _ _ _ (dls_pure _), ltLL_pure _ _ _ (uns_pure _)]
              exact ⟨hw, .inr ⟨rfl, rfl⟩⟩
            | some sg =>
              have hac : addC v acc d = acc ++ [⟨nameD d, signS sg, pathU v d.unit⟩] := by rw [addC, if_pos ⟨.inl h1, hb2⟩, hs]
              rw [hnm] at hac
              have hwr := Swrite sg (sig_short hv hs).1 (sig_short hv hs).2 (sig_res hv hs)
              simp -implicitDefEqProofs only [go_sem, encSig, set_S hb]
              refine snd_draw (cs := []) mixed (by kernel_rfl) ?_
              simp -implicitDefEqProofs only [go_sem, hug, hu0, hu1]
              refine vPC_of (VPure.toV (tv := 116) hwr) (by simp -implicitDefEqProofs only [go_sem]) ?_
              simp -implicitDefEqProofs only [go_sem, hug, hu0, hu1]
              refine ⟨by omega, by simp, gen0, ?_⟩
              rw [hsn, hac, stC_cons (by simp), hpu]
              simp -implicitDefEqProofs only [go_sem]
              subst hz
              exact ⟨hw, of_eq_true tell1_same, of_eq_true tellO_same⟩
        · have hac : addC v acc d = acc := by
            rw [addC, if_neg]
            rintro ⟨h | h, _⟩
            · exact h1 h
            · exact h4 h
          simp -implicitDefEqProofs only [go_sem, hgx, hlt, h1, h4]
          refine ⟨gb, ?_⟩
          rw [hsn, hac, stC_nil hz]
          simp -implicitDefEqProofs only [go_sem]
          rw [ltP_seen, ltLL_pure _ _ _ (dls_pure _), ltLL_pure _ _ _ (uns_pure _)]
          exact ⟨hw, .inr ⟨rfl, rfl⟩⟩
    · rw [stC_cons hz]
      by_cases h4 : d.kind = 4
      · have hnm : nameD d = d.owner ++ ⟨#[46]⟩ ++ d.name := by rw [nameD, if_pos h4]
        have hnn : (d.kind = 1) = False := by simp [h4]
        simp -implicitDefEqProofs only [go_sem, hgx, hlt, h4, look_SV]
        refine ⟨by simp only [List.size_toArray, List.length_cons, List.length_nil]; omega, by simp only [List.size_toArray, List.length_cons, List.length_nil]; omega, ?_⟩
        refine ⟨fun hb => ?_, fun hb => ?_⟩
        · have hac : addC v acc d = acc := by
            rw [addC, if_neg]
            rintro ⟨_, h⟩
            rw [hnm] at h
            rw [List.any_map] at hb
            exact absurd (show (acc.any fun c => decide (c.name = d.owner ++ ⟨#[46]⟩ ++ d.name)) = true from hb) (by rw [h]; simp)
          refine ⟨gb, ?_⟩
          rw [hsn, hac, stC_cons hz]
          simp -implicitDefEqProofs only [go_sem]
          rw [ltP_seen, ltLL_pure _ _ _ (dls_pure _), ltLL_pure _ _ _ (uns_pure _)]
          exact ⟨hw, .inr ⟨vecLt acc, rfl⟩⟩
        · have hb2 : (acc.any fun c => decide (c.name = nameD d)) = false := by
            rw [hnm]
            rw [List.any_map] at hb
            exact hb
          refine (VPure.toV (tv := 116) hsg).calls (by simp -implicitDefEqProofs only [go_sem]) ?_
          cases hs : sigU v d.owner d.name with
          | none =>
            have hac : addC v acc d = acc := by rw [addC, if_pos ⟨.inr h4, hb2⟩, hs]
            simp -implicitDefEqProofs only [go_sem, encSig]
            refine ⟨gb, ?_⟩
            rw [hsn, hac, stC_cons hz]
            simp -implicitDefEqProofs only [go_sem]
            rw [ltP_seen, ltLL_pure _ _ _ (dls_pure _), ltLL_pure _ _ _ (uns_pure _)]
            exact ⟨hw, .inr ⟨vecLt acc, rfl⟩⟩
          | some sg =>
            have hac : addC v acc d = acc ++ [⟨nameD d, signS sg, pathU v d.unit⟩] := by rw [addC, if_pos ⟨.inr h4, hb2⟩, hs]
            rw [hnm] at hac
            have hwr := Swrite sg (sig_short hv hs).1 (sig_short hv hs).2 (sig_res hv hs)
            simp -implicitDefEqProofs only [go_sem, encSig, set_S hb]
            refine snd_draw (cs := []) mixed (by kernel_rfl) ?_
            simp -implicitDefEqProofs only [go_sem, hug, hu0, hu1]
            refine vPC_of (VPure.toV (tv := 116) hwr) (by simp -implicitDefEqProofs only [go_sem]) ?_
            simp -implicitDefEqProofs only [go_sem, hug, hu0, hu1]
            refine ⟨by omega, by simp, ⟨encCs_len acc, by omega⟩, gb + 1, ?_⟩
            rw [hsn, hac, stC_cons (by simp), hpu]
            simp -implicitDefEqProofs only [go_sem]
            refine ⟨hw, ?_, .inr ⟨?_, ?_⟩⟩
            · rw [encCs_app]; exact of_eq_true tellO_same
            · rw [ltP_seen, Bool.true_and]; simp only [V.lt, VObj.lt, encCs_lt]; decide
            · rw [ltLL_pure _ _ _ (dls_pure _), ltLL_pure _ _ _ (uns_pure _)]; rfl
      · by_cases h1 : d.kind = 1
        · have hnm : nameD d = d.name := by rw [nameD, if_neg h4]
          simp -implicitDefEqProofs only [go_sem, hgx, hlt, h1, look_SV]
          refine ⟨fun hb => ?_, fun hb => ?_⟩
          · have hac : addC v acc d = acc := by
              rw [addC, if_neg]
              rintro ⟨_, h⟩
              rw [hnm] at h
              rw [List.any_map] at hb
              exact absurd (show (acc.any fun c => decide (c.name = d.name)) = true from hb) (by rw [h]; simp)
            refine ⟨gb, ?_⟩
            rw [hsn, hac, stC_cons hz]
            simp -implicitDefEqProofs only [go_sem]
            rw [ltP_seen, ltLL_pure _ _ _ (dls_pure _), ltLL_pure _ _ _ (uns_pure _)]
            exact ⟨hw, .inr ⟨vecLt acc, rfl⟩⟩
          · have hb2 : (acc.any fun c => decide (c.name = nameD d)) = false := by
              rw [hnm]
              rw [List.any_map] at hb
              exact hb
            refine (VPure.toV (tv := 116) hsg).calls (by simp -implicitDefEqProofs only [go_sem]) ?_
            cases hs : sigU v d.owner d.name with
            | none =>
              have hac : addC v acc d = acc := by rw [addC, if_pos ⟨.inl h1, hb2⟩, hs]
              simp -implicitDefEqProofs only [go_sem, encSig]
              refine ⟨gb, ?_⟩
              rw [hsn, hac, stC_cons hz]
              simp -implicitDefEqProofs only [go_sem]
              rw [ltP_seen, ltLL_pure _ _ _ (dls_pure _), ltLL_pure _ _ _ (uns_pure _)]
              exact ⟨hw, .inr ⟨vecLt acc, rfl⟩⟩
            | some sg =>
              have hac : addC v acc d = acc ++ [⟨nameD d, signS sg, pathU v d.unit⟩] := by rw [addC, if_pos ⟨.inl h1, hb2⟩, hs]
              rw [hnm] at hac
              have hwr := Swrite sg (sig_short hv hs).1 (sig_short hv hs).2 (sig_res hv hs)
              simp -implicitDefEqProofs only [go_sem, encSig, set_S hb]
              refine snd_draw (cs := []) mixed (by kernel_rfl) ?_
              simp -implicitDefEqProofs only [go_sem, hug, hu0, hu1]
              refine vPC_of (VPure.toV (tv := 116) hwr) (by simp -implicitDefEqProofs only [go_sem]) ?_
              simp -implicitDefEqProofs only [go_sem, hug, hu0, hu1]
              refine ⟨by omega, by simp, ⟨encCs_len acc, by omega⟩, gb + 1, ?_⟩
              rw [hsn, hac, stC_cons (by simp), hpu]
              simp -implicitDefEqProofs only [go_sem]
              refine ⟨hw, ?_, .inr ⟨?_, ?_⟩⟩
              · rw [encCs_app]; exact of_eq_true tellO_same
              · rw [ltP_seen, Bool.true_and]; simp only [V.lt, VObj.lt, encCs_lt]; decide
              · rw [ltLL_pure _ _ _ (dls_pure _), ltLL_pure _ _ _ (uns_pure _)]; rfl
        · have hac : addC v acc d = acc := by
            rw [addC, if_neg]
            rintro ⟨h | h, _⟩
            · exact h1 h
            · exact h4 h
          simp -implicitDefEqProofs only [go_sem, hgx, hlt, h1, h4]
          refine ⟨gb, ?_⟩
          rw [hsn, hac, stC_cons hz]
          simp -implicitDefEqProofs only [go_sem]
          rw [ltP_seen, ltLL_pure _ _ _ (dls_pure _), ltLL_pure _ _ _ (uns_pure _)]
          exact ⟨hw, .inr ⟨vecLt acc, rfl⟩⟩
end Go.Proofs.YtamednbojpnalaaGreatDoor
