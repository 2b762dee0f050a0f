/- strings.Builder: its methods over a builder object. -/
import Derived.Test.YtellnbgljmocgaaGreatDoorVgR
import Derived.Shelf.Strings.Builder1
set_option linter.unusedVariables false
namespace Go.Proofs
open Go.Shelf Go.RowKit Go.Vg
variable {P : Program} {ρ : Ren}

theorem wpList_append_run {ops : Array Oper} {rest : List Oper} {o : Oper} {a : Act} {w w' : World} {Q : Exit → Act → World → Prop} (hgd : o.guard = none) (sl x : Operand) (t u : TypeId)
    (ho : o.op = .call { callee := .builtin .append, args := #[sl, x], argTypes := #[t, u] }) (v v' : Value) (hs : a.eval sl = v) (s : ByteArray) (hx : a.eval x = .string s)
    (hr : ∀ ty, (Builtin.append_ #[t, u] ty #[v, .string s]).run P w = .ok v' w') (h : wpList P ops Q rest (a.put o.dst v') w') : wpList P ops Q (o :: rest) a w := by
  refine wpList_plain hgd fun K hK => ?_
  unfold Oper.wp execOp
  simp only [ho, resolve, invoke, builtin, Sem.run_bind, Sem.run_pure, Result.andThen_ok, List.map_toArray, List.map_cons, List.map_nil, hs, hx, hr]
  exact hK _ _ h

/-- What the contract of WriteString asks of a program: its text, its types, and copyCheck's two ways. -/
structure WSL (P : Program) (ρ : Ren) : Prop where
  mixed : P.follows .mixedOrders = true
  f166 : P.funcs[ρ.f 166]? = some (Body.n166 ρ)
  e240 : ∀ args w, (callFunc (ρ.f 240) args).run P w = .ok (.enter (ρ.f 240) args) w
  ccU : ∀ (b : Nat) (w : World), w.cell? ⟨b, 0, none⟩ = some (.pointer (some ⟨b, 0, none⟩)) → Calls P (ρ.f 240) #[.pointer (some ⟨b, 0, none⟩)] w fun e w' => e = .returned (.tuple #[]) ∧ w' = w
  ccF : ∀ (b : Nat) (w : World), w.cell? ⟨b, 0, none⟩ = some (.pointer none) → w.shape? b = some (ρ.t 72, 2) → w.frozen? ⟨b, 0, none⟩ = false →
    Calls P (ρ.f 240) #[.pointer (some ⟨b, 0, none⟩)] w fun e w' => e = .returned (.tuple #[]) ∧ w' = w.setCell ⟨b, 0, none⟩ (.pointer (some ⟨b, 0, none⟩))
  t72 : P.underlying (ρ.t 72) = some (TypeDesc.struct #[{ name := "addr", type := ρ.t 70, offset := 0, embedded := false, tag := "", pkgPath := "strings", byteOffset := 0 }, { name := "buf", type := ρ.t 37, offset := 1, embedded := false, tag := "", pkgPath := "strings", byteOffset := 8 }])
  a72 : ∀ w, (isAgg (ρ.t 72)).run P w = .ok true w
  z72 : ∀ w, (Go.sizeOf (ρ.t 72)).run P w = .ok 2 w
  v72 : ∀ w, (zeroValue (ρ.t 72)).run P w = .ok (Value.agg #[Value.pointer none, Value.slice none 0 0]) w
  t70 : P.underlying (ρ.t 70) = some (TypeDesc.pointer (ρ.t 72))
  a70 : ∀ w, (isAgg (ρ.t 70)).run P w = .ok false w
  z70 : ∀ w, (Go.sizeOf (ρ.t 70)).run P w = .ok 1 w
  v70 : ∀ w, (zeroValue (ρ.t 70)).run P w = .ok (Value.pointer none) w
  t37 : P.underlying (ρ.t 37) = some (TypeDesc.slice (ρ.t 5))
  a37 : ∀ w, (isAgg (ρ.t 37)).run P w = .ok false w
  z37 : ∀ w, (Go.sizeOf (ρ.t 37)).run P w = .ok 1 w
  v37 : ∀ w, (zeroValue (ρ.t 37)).run P w = .ok (Value.slice none 0 0) w
  t3 : P.underlying (ρ.t 3) = some (TypeDesc.int IntKind.i64)
  a3 : ∀ w, (isAgg (ρ.t 3)).run P w = .ok false w
  z3 : ∀ w, (Go.sizeOf (ρ.t 3)).run P w = .ok 1 w
  v3 : ∀ w, (zeroValue (ρ.t 3)).run P w = .ok (Value.int .i64 0) w
  t9 : P.underlying (ρ.t 9) = some TypeDesc.string
  a9 : ∀ w, (isAgg (ρ.t 9)).run P w = .ok false w
  z9 : ∀ w, (Go.sizeOf (ρ.t 9)).run P w = .ok 1 w
  v9 : ∀ w, (zeroValue (ρ.t 9)).run P w = .ok (Value.string { data := #[] }) w

set_option maxHeartbeats 2000000 in
set_option maxRecDepth 100000 in
/-- WriteString, told exactly: what copyCheck leaves, what append leaves, and the store. -/
theorem WS_exact (L : WSL P ρ) (X : Builder.Extra P ρ) (b : Nat) (v v' : Value) (t : ByteArray) (w w1 w2 : World)
    (hcc : Calls P (ρ.f 240) #[.pointer (some ⟨b, 0, none⟩)] w fun e w' => e = .returned (.tuple #[]) ∧ w' = w1)
    (hbk : w1.heap[b]? = some (.cells #[.pointer (some ⟨b, 0, none⟩), v] (ρ.t 72) (0, 0)))
    (hr : ∀ ty, (Builtin.append_ #[ρ.t 37, ρ.t 9] ty #[v, .string t]).run P w1 = .ok v' w2) (ht : t.size ≤ 140737488355328) (hv' : ∃ ao n c, v' = .slice ao n c)
    (hb2 : w2.heap[b]? = some (.cells #[.pointer (some ⟨b, 0, none⟩), v] (ρ.t 72) (0, 0))) :
    Calls P (ρ.f 166) #[.pointer (some ⟨b, 0, none⟩), .string t] w fun e w' => e = .returned (.tuple #[.int .i64 t.size, .nilIface]) ∧ w' = w2.setCell ⟨b, 1, none⟩ v' := by
  obtain ⟨ao, n', cap, rfl⟩ := hv'
  have mixed := L.mixed
  have t72 := L.t72; have a72 := L.a72; have z72 := L.z72; have v72 := L.v72; have u72 := run_underlying L.t72
  have t70 := L.t70; have a70 := L.a70; have z70 := L.z70; have v70 := L.v70; have u70 := run_underlying L.t70
  have t37 := L.t37; have a37 := L.a37; have z37 := L.z37; have v37 := L.v37; have u37 := run_underlying L.t37
  have t3 := L.t3; have a3 := L.a3; have z3 := L.z3; have v3 := L.v3; have u3 := run_underlying L.t3
  have t9 := L.t9; have a9 := L.a9; have z9 := L.z9; have v9 := L.v9; have u9 := run_underlying L.t9
  have t5 := X.t5; have a5 := X.a5; have z5 := X.z5; have v5 := X.v5; have u5 := run_underlying X.t5
  have e240 := L.e240
  go_enter L.f166, Body.n166_ntmps ρ
  go_wp2_with (go_at_fn (ρ.f 240); refine hcc.mono ?_)
  rintro e W1 ⟨rfl, hW⟩
  subst hW
  have c0 : W1.cell? ⟨b, 0, none⟩ = some (.pointer (some ⟨b, 0, none⟩)) := by rw [Lib.cell_of_heap hbk]; rfl
  have c1 : W1.cell? ⟨b, 1, none⟩ = some v := by rw [Lib.cell_of_heap hbk]; rfl
  have d0 : w2.cell? ⟨b, 0, none⟩ = some (.pointer (some ⟨b, 0, none⟩)) := by rw [Lib.cell_of_heap hb2]; rfl
  have d1 : w2.cell? ⟨b, 1, none⟩ = some v := by rw [Lib.cell_of_heap hb2]; rfl
  have f1 : w2.frozen? ⟨b, 1, none⟩ = false := Lib.frozen_of_heap hb2 1
  go_wp2_with (at_builtin; refine wpList_append_run rfl _ _ (ρ.t 37) (ρ.t 9) rfl v (.slice ao n' cap) rfl t rfl hr ?_)
  go_ret2
  exact ⟨rfl, rfl⟩

set_option maxHeartbeats 2000000 in
set_option maxRecDepth 100000 in
/-- String of a builder that holds a byte, told exactly. -/
theorem STR_exact (L : Lays.n169 P ρ) (X : Builder.Extra P ρ) (b g cap : Nat) (p : Value) (cur : Array Value) (l : List UInt8) (w : World)
    (hbk : w.heap[b]? = some (.cells #[p, .slice (some ⟨g, 0, none⟩) l.length cap] (ρ.t 72) (0, 0))) (hg : w.heap[g]? = some (.cells cur (ρ.t 5) (0, 0))) (h0 : l ≠ []) (hnc : l.length ≤ cap) (hcm : cap ≤ maxLen) (hcs : cur.size = cap)
    (htake : cur.toList.take l.length = l.map fun b => Value.int .u8 b.toNat) :
    Calls P (ρ.f 169) #[.pointer (some ⟨b, 0, none⟩)] w fun e w' => e = .returned (.string ⟨l.toArray⟩) ∧ w' = w.drew.freeze ⟨g, 0, none⟩ l.length := by
  have hl0 : l.length ≠ 0 := by simpa using h0
  have c1 : w.drew.cell? ⟨b, 1, none⟩ = some (.slice (some ⟨g, 0, none⟩) l.length cap) := by
    have : w.drew.heap[b]? = some (.cells #[p, .slice (some ⟨g, 0, none⟩) l.length cap] (ρ.t 72) (0, 0)) := hbk
    rw [Lib.cell_of_heap this]; rfl
  have hSD : (Builtin.unsafeSliceData_ #[(ρ.t 37)] (ρ.t 127) #[.slice (some ⟨g, 0, none⟩) l.length cap]).run P w.drew = .ok (.pointer (some ⟨g, 0, none⟩)) w.drew :=
    Lib.run_unsafeSliceData_row _ _ _ _ _ _ (by omega)
  have hg' : w.drew.heap[g]? = some (.cells cur (ρ.t 5) (0, 0)) := hg
  have hUS : (Builtin.unsafeString_ #[(ρ.t 127), (ρ.t 3)] (ρ.t 9) #[.pointer (some ⟨g, 0, none⟩), .int .i64 l.length]).run P w.drew = .ok (.string ⟨l.toArray⟩) (w.drew.freeze ⟨g, 0, none⟩ l.length) := by
    refine Lib.run_unsafeString_row w.drew (ρ.t 127) (ρ.t 3) (ρ.t 9) (ρ.t 5) L.t127 X.cellsByte g cur.size (by simp [World.shape?, hg']) l h0 (by omega) (by unfold maxLen at hcm; omega) ?_
    intro j x hx
    have hlt : j < l.length := (List.getElem?_eq_some_iff.1 hx).1
    have h1 : (cur.toList.take l.length)[j]? = some (.int .u8 x.toNat) := by rw [htake]; simp [hx]
    rw [List.getElem?_take, if_pos hlt] at h1
    rw [Addr.add_lit, Lib.cell_of_heap hg', Nat.zero_add]
    simpa using h1
  have mixed := L.mixed
  have t72 := L.t72; have a72 := L.a72; have z72 := L.z72; have v72 := L.v72; have u72 := run_underlying L.t72
  have t70 := L.t70; have a70 := L.a70; have z70 := L.z70; have v70 := L.v70; have u70 := run_underlying L.t70
  have t37 := L.t37; have a37 := L.a37; have z37 := L.z37; have v37 := L.v37; have u37 := run_underlying L.t37
  have t127 := L.t127; have a127 := L.a127; have z127 := L.z127; have v127 := L.v127; have u127 := run_underlying L.t127
  have t3 := L.t3; have a3 := L.a3; have z3 := L.z3; have v3 := L.v3; have u3 := run_underlying L.t3
  have t9 := L.t9; have a9 := L.a9; have z9 := L.z9; have v9 := L.v9; have u9 := run_underlying L.t9
  have t5 := X.t5; have a5 := X.a5; have z5 := X.z5; have v5 := X.v5; have u5 := run_underlying X.t5
  go_enter L.f169, Body.n169_ntmps ρ
  go_wp2
  go_region_o
  all_goals (go_wp2; go_ret; exact ⟨rfl, rfl⟩)

end Go.Proofs
namespace Go.Vg
open Go.Shelf Go.RowKit Go.Proofs

/-- A builder turns: its own two blocks and new ones. -/
theorem RelW.bldStep {E : Env} {G : Gh} {heap : List VObj} {arr : List Nat} {w0 : Base} {w w' : World} (h : RelW E G heap arr w0 w) {id b : Nat} {T T' : TypeId} {s s' : ByteArray} (hb : G.φ[id]? = some b)
    (hh : heap[id]? = some (.builder T s)) (honly : ∀ (j : Nat) T' s', heap[j]? = some (.builder T' s') → j = id) (gO : Option Nat) (hsep : ∀ g, gO = some g → SepB G g ∧ b < g)
    (hos : w'.os = w.os) (ht : w'.tape = w.tape) (ho : w'.output = w.output) (hsz : w.heap.size ≤ w'.heap.size) (hk : ∀ k, k < w.heap.size → k ≠ b → gO ≠ some k → w'.heap[k]? = w.heap[k]?)
    (hobj : RObj E.P G arr w' b (.builder T' s')) (hbld : Bld E G w' T' s' b) : RelW E G (heap.set id (.builder T' s')) arr w0 w' := by
  have hid := (List.getElem?_eq_some_iff.1 hh).1
  have hlive : heap[id]? ≠ some .dead := by rw [hh]; simp
  have hblk : ∀ k, k < w.heap.size → k ≠ b → (∀ g, SepB G g → b < g → k ≠ g) → w'.heap[k]? = w.heap[k]? := fun k h1 h2 h3 => hk k h1 h2 fun e => by
    obtain ⟨q1, q2⟩ := hsep k e
    exact h3 k q1 q2 rfl
  have hcell : ∀ b' o v, G.F b' o = some v → w'.cell? ⟨b', o, none⟩ = some v := fun b' o v hv => by
    have hc := h.frz b' o v hv
    have hlt := cell_lt hc
    have : w'.heap[b']? = w.heap[b']? := hblk b' hlt (fun e => by subst e; rw [h.sep id b' o hb hlive] at hv; cases hv) fun g hs _ e => by subst e; rw [hs.1 o] at hv; cases hv
    unfold World.cell? at hc ⊢
    rw [this]; exact hc
  refine ⟨h.newF, h.glob, ?_, hcell, h.one, ?_, by simp [h.lenφ], h.nod, fun i c o hc hd => ?_, fun i c hc => ?_, h.lenρ, ?_, h.regd, h.fre, ?_, h.ini⟩
  · refine h.below.trans ⟨hos, ht, ho, hsz, fun k hkk => ?_⟩
    have := (h.geφ id b hb).1
    have := h.below.size
    exact hblk k (by omega) (by omega) fun g _ hg => by omega
  · intro i ob hi
    by_cases e : i = id
    · subst e
      rw [List.getElem?_set_self hid] at hi
      cases hi
      exact ⟨b, hb, hobj⟩
    · rw [List.getElem?_set_ne (Ne.symm e)] at hi
      obtain ⟨c, hc, hrc⟩ := h.obj i ob hi
      exact ⟨c, hc, hrc.keep (Ext.refl _ _) (hblk c (h.geφ i c hc).2 (fun ec => e (h.nod i id c hc (by rw [ec]; exact hb))) fun g hs _ eg => hs.2.1 i (by rw [← eg]; exact hc))⟩
  · by_cases e : i = id
    · subst e; exact h.sep i c o hc hlive
    · rw [List.getElem?_set_ne (Ne.symm e)] at hd
      exact h.sep i c o hc hd
  · have := h.geφ i c hc; omega
  · intro k b' lo hi hk' hlt
    obtain ⟨⟨c', e', h1, h2⟩, h3, h4, h5⟩ := h.reg k b' lo hi hk' hlt
    have hbl : b' < w.heap.size := (Array.getElem?_eq_some_iff.1 h1).1
    exact ⟨⟨c', e', by rw [hblk b' hbl (fun e => h3 id (by rw [e]; exact hb)) fun g hs _ eg => by have := hs.2.2 k lo hi (by rw [← eg]; exact hk'); omega]; exact h1, h2⟩, h3, h4, h5⟩
  · intro i t s c hi hc
    by_cases e : i = id
    · subst e
      rw [List.getElem?_set_self hid] at hi
      cases hi
      rw [hb] at hc; cases hc
      exact hbld
    · rw [List.getElem?_set_ne (Ne.symm e)] at hi
      exact absurd (honly i t s hi) e

/-- Where an append of a string onto an owned row lands. -/
theorem append_where {P : Program} {w : World} {t u ty e : TypeId} {i : TypeInfo} (ht : P.underlying t = some (.slice e)) (hu : P.underlying u = some .string) (hi : P.info? e = some i) (hz : i.zero = some (.int .u8 0)) (hsize : i.size = 1) (hby : i.bytes = 1)
    {B : Nat} {v : Value} {n : Nat} {xs : List Value} (hown : w.ownsRow B e 1 v n xs) (hone : ∀ x ∈ xs, x.oneCell' = true) (s : ByteArray) (hb : n + s.size ≤ 140737488355328) {v' : Value} {w' : World}
    (hr : (Builtin.append_ #[t, u] ty #[v, .string s]).run P w = .ok v' w') : v'.ownBlock = v.ownBlock ∨ v'.ownBlock = some w.heap.size := by
  rcases hown.2 with ⟨rfl, rfl⟩ | ⟨g, cap, cur, rfl, hB, hg, hnc, hcm, hcs, htake⟩
  · by_cases h0 : s.size = 0
    · left
      obtain ⟨v'', w'', hr', _, _, h4⟩ := Lib.run_append_own_string (P := P) w w.heap.size t u ty e i ht hu hi hz hsize hby (.slice none 0 0) 0 xs ⟨hown.1, .inl ⟨rfl, rfl⟩⟩ s (by unfold maxLen; omega) hb (Nat.le_refl _)
      rw [hr] at hr'
      cases hr'
      rw [h4.2 ⟨rfl, h0⟩]
    · right
      have hnc := nextslicecap_le (0 + s.size) 0 (by omega)
      have := run_append_grow_src (P := P) w t u ty e i (.int .u8 0) ht hi hz none 0 0 [] (run_firstCells_none w.drew i.size 0 0 0) (.string s) s.size (byteCells s) (by rw [hsize]; exact Src.ofString w hu s) (by omega) (by omega) (by rw [hby]; omega)
      rw [this] at hr
      cases hr
      rfl
  · by_cases hfit : n + s.size ≤ cap
    · left
      have := run_append_room_src (P := P) w t u ty e i ht hi g 0 n cap (.string s) s.size (byteCells s) (by rw [hsize]; exact Src.ofString w hu s) hfit (fun j hj => by
        rw [byteCells_length] at hj
        rw [hsize, Lib.cell_of_heap hg, Array.getElem?_eq_getElem (by omega)]; rfl) (fun j hj => Lib.frozen_of_heap hg _)
      rw [this] at hr
      cases hr
      rfl
    · right
      have hnc := nextslicecap_le (n + s.size) cap (by omega)
      have := run_append_grow_src (P := P) w t u ty e i (.int .u8 0) ht hi hz (some ⟨g, 0, none⟩) n cap xs (run_firstCells_some w.drew i.size n ⟨g, 0, none⟩ n cap xs (by rw [hsize]; exact hown.1) (fun j x hj => by
        have hlt : j < n := by have h1 := (List.getElem?_eq_some_iff.1 hj).1; have h2 := hown.1; omega
        rw [Addr.add_lit]
        show (w.drew).cell? ⟨g, 0 + j, none⟩ = _
        rw [Lib.cell_of_heap (show w.drew.heap[g]? = _ from hg), Nat.zero_add]
        rw [← htake, List.getElem?_take, if_pos (by omega)] at hj
        simpa using hj)) (.string s) s.size (byteCells s) (by rw [hsize]; exact Src.ofString w hu s) (by omega) (by omega) (by rw [hby]; omega)
      rw [this] at hr
      cases hr
      rfl

theorem ownBlock_slice {v : Value} {w : World} {B : Nat} {e : TypeId} {n : Nat} {xs : List Value} (h : w.ownsRow B e 1 v n xs) : ∃ ao c, v = .slice ao n c := by
  rcases h.2 with ⟨rfl, rfl⟩ | ⟨g, cap, cur, rfl, _⟩
  · exact ⟨_, _, rfl⟩
  · exact ⟨_, _, rfl⟩

theorem byteCells_app (s t : ByteArray) : byteCells (s ++ t) = byteCells s ++ byteCells t := by simp [byteCells]
theorem strCells_eq (s : ByteArray) : Lib.strCells s = byteCells s := rfl

/-- The contract of (*strings.Builder).WriteString, over a builder object. -/
theorem vWriteString {E : Env} {ρ : Ren} (L : WSL E.P ρ) (X : Builder.Extra E.P ρ) (hB : E.byteT = ρ.t 5) {heap : List VObj} {arr : List Nat} {id : Nat} {s t : ByteArray} {K : Cont}
    (hh : heap[id]? = some (.builder (ρ.t 72) s)) (honly : ∀ (j : Nat) T' s', heap[j]? = some (.builder T' s') → j = id) (hlen : s.size + t.size ≤ 140737488355328)
    (hK : K (.tuple [.int .i64 t.size, .nilif]) (heap.set id (.builder (ρ.t 72) (s ++ t))) arr) : VCalls E (ρ.f 166) [.ptr id 0, .str t] heap arr K := by
  intro G w0 w vals hr ha
  obtain ⟨va, vs, rfl, hva, ha⟩ := ha.cons
  obtain ⟨vt, vs, rfl, hvt, ha⟩ := ha.cons
  rw [ha.nil]
  cases hvt with
  | str _ htsz =>
  cases hva with
  | ptr _ _ b hb =>
  obtain ⟨b', hb', p, v, hbk, hp⟩ := hr.obj id _ hh
  rw [hb] at hb'; cases hb'
  obtain ⟨p', v', hbk', hd⟩ := hr.bld id _ s b hh hb
  rw [hbk] at hbk'
  cases hbk'
  obtain ⟨i0, hi, hz0, hz1, hz2⟩ := info_parts X.infoByte
  have hlt : b < w.heap.size := (Array.getElem?_eq_some_iff.1 hbk).1
  -- what is owned
  have hown : w.ownsRow (b + 1) (ρ.t 5) 1 v s.size (byteCells s) := by
    refine ⟨by rw [byteCells_length]; omega, ?_⟩
    rcases hd with ⟨rfl, h0⟩ | ⟨g, cap, cur, rfl, g2, g3, g4, g5, g6, g7, g8⟩
    · exact .inl ⟨rfl, h0⟩
    · exact .inr ⟨g, cap, cur, rfl, by omega, by rw [← hB]; exact g3, g4, g5, by omega, by simpa using g7⟩
  have hsepv : ∀ g, v.ownBlock = some g → SepB G g ∧ b < g := by
    intro g hg
    rcases hd with ⟨rfl, h0⟩ | ⟨g', cap, cur, rfl, g2, g3, g4, g5, g6, g7, g8⟩
    · cases hg
    · cases hg; exact ⟨g8, g2⟩
  -- behind copyCheck
  obtain ⟨w1, hcc, h1b, h1k, h1s, h1os, h1t, h1o⟩ : ∃ w1, Calls E.P (ρ.f 240) #[.pointer (some ⟨b, 0, none⟩)] w (fun e w' => e = .returned (.tuple #[]) ∧ w' = w1) ∧
      w1.heap[b]? = some (.cells #[.pointer (some ⟨b, 0, none⟩), v] (ρ.t 72) (0, 0)) ∧ (∀ k, k ≠ b → w1.heap[k]? = w.heap[k]?) ∧ w1.heap.size = w.heap.size ∧ w1.os = w.os ∧ w1.tape = w.tape ∧ w1.output = w.output := by
    rcases hp with rfl | rfl
    · refine ⟨_, L.ccF b w (by rw [Lib.cell_of_heap hbk]; rfl) (by simp [World.shape?, hbk]) (Lib.frozen_of_heap hbk 0), ?_, fun k hk => Below.heap_setCell _ _ _ _ hk, by simp [World.setCell], rfl, rfl, rfl⟩
      simp [World.setCell, Array.getElem?_modify, hbk]
    · exact ⟨w, L.ccU b w (by rw [Lib.cell_of_heap hbk]; rfl), hbk, fun _ _ => rfl, rfl, rfl, rfl, rfl⟩
  have hown1 : w1.ownsRow (b + 1) (ρ.t 5) 1 v s.size (byteCells s) := by
    refine ⟨hown.1, hown.2.imp (fun h => h) fun ⟨g, cap, cur, g1, g2, g3, g4⟩ => ⟨g, cap, cur, g1, g2, ?_, g4⟩⟩
    rw [h1k g (by omega)]; exact g3
  -- the append
  obtain ⟨v', w2, hrun, hown2, hgrow, _⟩ := Lib.run_append_own_string (P := E.P) w1 (b + 1) (ρ.t 37) (ρ.t 9) (ρ.t 0) (ρ.t 5) i0 L.t37 L.t9 hi hz0 hz1 hz2 v s.size (byteCells s) hown1 t (by unfold maxLen; omega) hlen (by omega)
  have hwhere := append_where (P := E.P) L.t37 L.t9 hi hz0 hz1 hz2 hown1 (fun x hx => by obtain ⟨_, _, rfl⟩ := List.mem_map.1 hx; rfl) t hlen hrun
  obtain ⟨ao, c', hv'⟩ := ownBlock_slice hown2
  have h2b : w2.heap[b]? = some (.cells #[.pointer (some ⟨b, 0, none⟩), v] (ρ.t 72) (0, 0)) := by
    rw [hgrow.block b (by omega) (fun e => by have := (hsepv b e.symm).2; omega)]; exact h1b
  refine (WS_exact L X b v v' t w w1 w2 hcc h1b (fun ty => hrun) (by omega) ⟨ao, _, c', hv'⟩ h2b).mono fun e w' ⟨he, hw'⟩ => ?_
  subst hw'
  have hb2 : b < w2.heap.size := (Array.getElem?_eq_some_iff.1 h2b).1
  have hbs : (w2.setCell ⟨b, 1, none⟩ v').heap[b]? = some (.cells #[.pointer (some ⟨b, 0, none⟩), v'] (ρ.t 72) (0, 0)) := by
    simp [World.setCell, Array.getElem?_modify, h2b]
  have hsepv' : ∀ g, v'.ownBlock = some g → SepB G g := by
    intro g hg
    rcases hwhere with hw | hw
    · exact (hsepv g (by rw [← hw]; exact hg)).1
    · rw [hg] at hw
      have hge : g = w.heap.size := by have := Option.some.inj hw; omega
      subst hge
      refine ⟨hr.F_new, fun i hi => ?_, fun k lo hi hk => ?_⟩
      · have := hr.geφ i _ hi; omega
      · rcases Nat.lt_or_ge lo hi with hlt' | hge'
        · obtain ⟨⟨c, e', q1, _⟩, _⟩ := hr.reg k _ lo hi hk hlt'
          have := (Array.getElem?_eq_some_iff.1 q1).1
          omega
        · exact hge'
  refine .inl ⟨_, he, _, _, arr, G, hK, Ext.refl _ _, ?_, .tuple _ _ rfl fun j c u hc hu => ?_⟩
  · refine hr.bldStep (w' := w2.setCell ⟨b, 1, none⟩ v') hb hh honly v.ownBlock hsepv (hgrow.os.trans h1os) (hgrow.tape.trans h1t) (hgrow.output.trans h1o) ?_ ?_ ⟨_, _, hbs, .inr rfl⟩ ⟨_, _, hbs, ?_⟩
    · have := hgrow.size; simp [World.setCell]; omega
    · intro k hk hkb hkg
      rw [Below.heap_setCell _ _ _ _ hkb, hgrow.block k (by omega) (fun e => hkg e.symm), h1k k hkb]
    · rcases hown2.2 with ⟨hn, h0⟩ | ⟨g, cap, cur, hv, q1, q2, q3, q4, q5, q6⟩
      · exact .inl ⟨hn, by rw [ByteArray.size_append]; exact h0⟩
      · refine .inr ⟨g, cap, cur, by rw [ByteArray.size_append]; exact hv, by omega, ?_, by rw [ByteArray.size_append]; exact q3, q4, by omega, ?_, hsepv' g (by rw [hv]; rfl)⟩
        · rw [Below.heap_setCell _ _ _ _ (show g ≠ b by omega), hB]; exact q2
        · rw [ByteArray.size_append, byteCells_app]; simpa [strCells_eq] using q6
  · match j with
    | 0 => simp at hc hu; subst hc hu; exact .int _ _
    | 1 => simp at hc hu; subst hc hu; exact .nilif
    | j + 2 => simp at hc

/-- All objects given up, all slots closed. -/
theorem RelW.allDead {E : Env} {G : Gh} {heap : List VObj} {arr : List Nat} {w0 : Base} {w w' : World} (h : RelW E G heap arr w0 w) (hbl : Below w0.w.heap.size w w') (hsz : w.heap.size ≤ w'.heap.size)
    (hc : ∀ b o, b < w.heap.size → w'.cell? ⟨b, o, none⟩ = w.cell? ⟨b, o, none⟩) :
    Ext G arr { G with ρ := G.ρ.map fun _ => (0, 0, 0) } (arr.map (· + 1)) ∧ RelW E { G with ρ := G.ρ.map fun _ => (0, 0, 0) } (heap.map fun _ => .dead) (arr.map (· + 1)) w0 w' := by
  have hx : Ext G arr { G with ρ := G.ρ.map fun _ => (0, 0, 0) } (arr.map (· + 1)) := by
    refine ⟨fun _ _ _ h => h, fun _ _ h => h, fun k n hn => ⟨n + 1, by simp [hn], by omega, fun e => by omega⟩⟩
  have hg : ∀ (k b lo hi : Nat), (G.ρ.map fun _ => ((0, 0, 0) : Nat × Nat × Nat))[k]? = some (b, lo, hi) → b = 0 ∧ lo = 0 ∧ hi = 0 := by
    intro k b lo hi hk
    rw [List.getElem?_map] at hk
    obtain ⟨x, _, hx⟩ := Option.map_eq_some_iff.1 hk
    cases hx; exact ⟨rfl, rfl, rfl⟩
  refine ⟨hx, ⟨h.newF, fun g cs hg => ⟨(h.glob g cs hg).1, (h.glob g cs hg).2.mono hx⟩, h.below.trans hbl, fun b o v hv => ?_, h.one, fun id ob hid => ?_, by simp [h.lenφ], h.nod, fun id b o hb hd => ?_, fun id b hb => ?_, by simp [h.lenρ],
    fun k b lo hi hk hlt => ?_, fun i j b lo hi lo' hi' hij h1 h2 h3 h4 => ?_, fun k b lo hi hk => .inr (hg k b lo hi hk), fun id t s b hi hb => ?_, h.ini⟩⟩
  · have := h.frz b o v hv
    rw [hc b o (cell_lt this)]; exact this
  · rw [List.getElem?_map] at hid
    obtain ⟨x, hx', rfl⟩ := Option.map_eq_some_iff.1 hid
    obtain ⟨b, hb, _⟩ := h.obj id x hx'
    exact ⟨b, hb, trivial⟩
  · have hl : id < heap.length := by rw [← h.lenφ]; exact (List.getElem?_eq_some_iff.1 hb).1
    exact absurd (by simp [hl]) hd
  · have := h.geφ id b hb; omega
  · obtain ⟨_, rfl, rfl⟩ := hg k b lo hi hk; omega
  · obtain ⟨_, rfl, rfl⟩ := hg i b lo hi h1; omega
  · rw [List.getElem?_map] at hi
    obtain ⟨x, _, hx⟩ := Option.map_eq_some_iff.1 hi
    cases hx

theorem freeze_cell (w : World) (g n : Nat) (b o : Nat) : (w.freeze ⟨g, 0, none⟩ n).cell? ⟨b, o, none⟩ = w.cell? ⟨b, o, none⟩ := by
  unfold World.freeze
  split
  · rfl
  · unfold World.cell?
    simp only [Array.getElem?_modify]
    by_cases e : g = b
    · subst e
      rw [if_pos rfl]
      cases hh : w.heap[g]? with
      | none => simp
      | some ob => cases ob <;> simp
    · rw [if_neg e]

/-- The contract of (*strings.Builder).String, over a builder that holds a byte; all else is given up. -/
theorem vString {E : Env} {ρ : Ren} (L : Lays.n169 E.P ρ) (X : Builder.Extra E.P ρ) (hB : E.byteT = ρ.t 5) {heap : List VObj} {arr : List Nat} {id : Nat} {s : ByteArray} {K : Cont}
    (hh : heap[id]? = some (.builder (ρ.t 72) s)) (hs : s.size ≠ 0) (hsz : s.size ≤ 140737488355328) (hK : K (.str s) (heap.map fun _ => .dead) (arr.map (· + 1))) : VCalls E (ρ.f 169) [.ptr id 0] heap arr K := by
  intro G w0 w vals hr ha
  obtain ⟨va, vs, rfl, hva, ha⟩ := ha.cons
  rw [ha.nil]
  cases hva with
  | ptr _ _ b hb =>
  obtain ⟨p, v, hbk, hd⟩ := hr.bld id _ s b hh hb
  rcases hd with ⟨rfl, h0⟩ | ⟨g, cap, cur, rfl, g2, g3, g4, g5, g6, g7, g8⟩
  · exact absurd h0 hs
  rw [hB] at g3
  have hsl : s.size = s.data.toList.length := by simp
  have hbase := (hr.geφ id b hb).1
  refine (STR_exact L X b g cap p cur s.data.toList w (by rw [← hsl]; exact hbk) g3 (fun e => hs (by rw [hsl, e]; rfl)) (by omega) g5 g6 (by rw [← hsl]; exact g7)).mono fun e w' ⟨he, hw'⟩ => ?_
  subst hw'
  have hd : (w.drew.freeze ⟨g, 0, none⟩ s.data.toList.length).heap.size = w.heap.size := by
    unfold World.freeze
    split
    · rfl
    · show (Array.modify _ _ _).size = _
      rw [Array.size_modify]; rfl
  obtain ⟨q1, q2⟩ := hr.allDead (w' := w.drew.freeze ⟨g, 0, none⟩ s.data.toList.length) (Lib.below_freeze (Below.drew (Below.refl _ w)) (show w0.w.heap.size ≤ g by omega) _) (by omega) fun b o _ => freeze_cell w.drew g _ b o
  have hle : s.size ≤ 1152921504606846976 := by omega
  refine .inl ⟨_, he, _, _, _, _, hK, q1, q2, ?_⟩
  have : (⟨s.data.toList.toArray⟩ : ByteArray) = s := by cases s; rfl
  rw [this]
  exact .str _ hle
end Go.Vg
