/- Commits, as the program checks and writes them. -/
import Derived.Test.YtellnbgljmocgaaGreatDoorTcG
set_option linter.unusedVariables false
set_option linter.unusedSimpArgs false
set_option maxRecDepth 20000
namespace Go.Vg
structure Cm.ok (c : Cm) : Prop where
  i1 : -9223372036854775808 ≤ c.id
  i2 : c.id ≤ 9223372036854775807
  p1 : ∀ n ∈ c.parents, -9223372036854775808 ≤ n ∧ n ≤ 9223372036854775807
  l1 : c.parents.length ≤ 3000
  l2 : c.files.length ≤ 3000
  l3 : c.ops.length ≤ 3000
  f1 : ∀ f ∈ c.files, f.path.size ≤ 1000000 ∧ f.text.size ≤ 1000000
  m1 : c.msg.size ≤ 1000000
  o1 : ∀ r ∈ c.ops, r.ok
def framedB (s : ByteArray) : ByteArray := itoaB s.size ++ ⟨#[58]⟩ ++ s
end Go.Vg
namespace Go.Proofs.YtellnbgljmocgaaGreatDoor
open Go Go.Vg Go.Proofs
theorem framedB_size (s : ByteArray) (hs : s.size ≤ 100000000000) : (framedB s).size ≤ s.size + 22 := by
  have := itoaB_size s.size (by omega) (by omega)
  have e : (⟨#[58]⟩ : ByteArray).size = 1 := rfl
  simp only [framedB, ByteArray.size_append]
  omega
theorem Cframed (s : ByteArray) (hs : s.size ≤ 100000000000) : VPure env 26 [.str s] (.str (framedB s)) := by
  refine vpure_vc (fn := Tryz.f26) Tryz.func26 rfl (by rw [Tryz.ntmps26]; simp) rfl rfl ?_
  simp -implicitDefEqProofs only [go_sem, Tryz.f26]
  intro _
  have := itoaB_size s.size (by omega) (by omega)
  refine (Itoa s.size (by omega) (by omega) (by omega)).calls rfl ?_
  simp -implicitDefEqProofs only [go_sem]
  have e : (#[58] : Array UInt8).size = 1 := rfl
  exact ⟨by omega, by omega, rfl⟩
theorem opsErr_app : ∀ (pre post : List Rf), (∀ r ∈ pre, rfErr r = 0) → opsErr (pre ++ post) = opsErr post
  | [], _, _ => rfl
  | x :: r, post, h => by
    rw [List.cons_append, opsErr, if_pos (h x (by simp))]
    exact opsErr_app r post fun y hy => h y (by simp [hy])
/-- Too many parents, or one twice, or none. -/
def firstB (id : Int) (l : List Int) : Bool := decide (2 < l.length) || (match l with | [a, b] => decide (a = b) | _ => false) || (decide (l = []) && !decide (id = 0))
theorem parentsB_eq (c : Cm) : parentsB c = (!firstB c.id c.parents && c.parents.all fun p => decide (0 ≤ p) && decide (p < c.id)) := by
  obtain ⟨a1, a2, a3, a4, a5⟩ := c
  unfold parentsB firstB
  rcases a2 with _ | ⟨x, _ | ⟨y, _ | ⟨z, r⟩⟩⟩ <;> simp
/-- The checks of a commit but its number and its parents. -/
def tailErr (c : Cm) : Int := if filesErr c.files ≠ 0 then filesErr c.files else if !msgB c.msg then 1 else if 64 < c.ops.length then 3 else opsErr c.ops
theorem Ccheck (c : Cm) (hc : c.ok) : VPure env 10 [.agg c.enc] (.int .i64 (cmErr c)) := by
  obtain ⟨a1, a2, a3, a4, a5⟩ := c
  refine vpure_snd (fn := Tryz.f10) Tryz.func10 rfl (by rw [Tryz.ntmps10]; simp) (by simp -implicitDefEqProofs only [go_sem]) rfl ?_
  simp only [Tryz.f10]
  refine snd_cut ⟨[(1, .ptr 0 0)], [.cells (Cm.enc ⟨a1, a2, a3, a4, a5⟩)], []⟩ (by simp -implicitDefEqProofs only [go_sem]) ?_
  by_cases h0 : a1 < 0 ∨ 256 ≤ a1
  · refine vc_snd _ _ _ ?_
    have : cmErr ⟨a1, a2, a3, a4, a5⟩ = 2 := by unfold cmErr; rw [if_pos h0]
    rw [this]
    by_cases h1 : a1 < 0
    · simp -implicitDefEqProofs only [go_sem, h1]
    · have h2 : 256 ≤ a1 := by omega
      simp -implicitDefEqProofs only [go_sem, h1, h2]
  have h1 : ¬ a1 < 0 := by omega
  have h2 : ¬ 256 ≤ a1 := by omega
  refine snd_cut ⟨[(1, .ptr 0 0)], [.cells (Cm.enc ⟨a1, a2, a3, a4, a5⟩)], []⟩ (by simp -implicitDefEqProofs only [go_sem, h1, h2]) ?_
  refine snd_cut ⟨[(1, .ptr 0 0), (3, sl 3 (a2.map encI))], [.cells (Cm.enc ⟨a1, a2, a3, a4, a5⟩)], []⟩ (by simp -implicitDefEqProofs only [go_sem, h1, h2]) ?_
  have e0 : ((0 : Nat) : Int) = 0 := rfl
  have e1 : ((1 : Nat) : Int) = 1 := rfl
  have e2 : ((2 : Nat) : Int) = 2 := rfl
  by_cases hf : firstB a1 a2 = true
  · have : cmErr ⟨a1, a2, a3, a4, a5⟩ = 14 := by unfold cmErr; rw [if_neg h0, parentsB_eq, if_pos (by simp [hf])]
    rw [this]
    refine vc_snd _ _ _ ?_
    simp -implicitDefEqProofs only [go_sem]
    refine snd_draw (cs := []) mixed (by kernel_rfl) ?_
    rcases a2 with _ | ⟨x, _ | ⟨y, _ | ⟨z, r⟩⟩⟩
    · have hf : ¬ a1 = 0 := by simpa [firstB] using hf
      simp -implicitDefEqProofs only [go_sem, e0, hf]
    · simp [firstB] at hf
    · have hf : x = y := by simpa [firstB] using hf
      simp -implicitDefEqProofs only [go_sem, e2, hf, encI]
    · have hl : (2 : Int) < (((r.length + 1 + 1 + 1 : Nat)) : Int) := by omega
      simp -implicitDefEqProofs only [go_sem, hl]
  refine snd_cut ⟨[(1, .ptr 0 0), (3, sl 3 (a2.map encI))], [.cells (Cm.enc ⟨a1, a2, a3, a4, a5⟩)], []⟩ ?_ ?_
  · simp -implicitDefEqProofs only [go_sem]
    refine snd_draw (cs := []) mixed (by kernel_rfl) ?_
    rcases a2 with _ | ⟨x, _ | ⟨y, _ | ⟨z, r⟩⟩⟩
    · have hf : a1 = 0 := by simpa [firstB] using hf
      simp -implicitDefEqProofs only [go_sem, e0, hf]
    · simp -implicitDefEqProofs only [go_sem, e1, encI]
    · have hf : ¬ x = y := by simpa [firstB] using hf
      simp -implicitDefEqProofs only [go_sem, e2, hf, encI]
    · simp [firstB] at hf
  by_cases hall : (a2.all fun n => decide (0 ≤ n) && decide (n < a1)) = true
  rotate_left
  · have : cmErr ⟨a1, a2, a3, a4, a5⟩ = 14 := by unfold cmErr; rw [if_neg h0, parentsB_eq, if_pos (by simp [hall])]
    rw [this]
    refine vc_snd _ _ _ ?_
    simp -implicitDefEqProofs only [go_sem]
    refine ContainsP (c := ⟨a1, a2, a3, a4, a5⟩) rfl ?_
    have hall' : (a2.all fun n => decide (0 ≤ n) && decide (n < a1)) = false := by simpa using hall
    simp -implicitDefEqProofs only [go_sem, hall']
  refine snd_cut ⟨[(1, .ptr 0 0)], [.cells (Cm.enc ⟨a1, a2, a3, a4, a5⟩)], []⟩ ?_ ?_
  · simp -implicitDefEqProofs only [go_sem]
    refine ContainsP (c := ⟨a1, a2, a3, a4, a5⟩) rfl ?_
    simp -implicitDefEqProofs only [go_sem, hall]
  have hk : cmErr ⟨a1, a2, a3, a4, a5⟩ = tailErr ⟨a1, a2, a3, a4, a5⟩ := by
    unfold cmErr tailErr
    rw [if_neg h0, parentsB_eq, if_neg (by simp only [hall]; simp [hf])]
  rw [hk]
  by_cases hfi : filesErr a3 = 0
  rotate_left
  · refine vc_snd _ _ _ ?_
    simp -implicitDefEqProofs only [go_sem]
    refine (Pcheck a3).calls (by simp -implicitDefEqProofs only [go_sem]) ?_
    simp -implicitDefEqProofs only [go_sem, tailErr, hfi]
  refine snd_cut ⟨[(1, .ptr 0 0)], [.cells (Cm.enc ⟨a1, a2, a3, a4, a5⟩)], []⟩ ?_ ?_
  · simp -implicitDefEqProofs only [go_sem]
    refine (Pcheck a3).calls (by simp -implicitDefEqProofs only [go_sem]) ?_
    simp -implicitDefEqProofs only [go_sem, hfi]
  refine vc_snd _ _ _ ?_
  simp -implicitDefEqProofs only [go_sem]
  have hm1 : tailErr ⟨a1, a2, a3, a4, a5⟩ = if !msgB a4 then 1 else if 64 < a5.length then 3 else opsErr a5 := by unfold tailErr; simp only; rw [if_neg (by simp [hfi])]
  rw [hm1]
  refine fun hs => ⟨fun c => ?_, fun c => fun _ => ?_⟩
  · have : msgB a4 = false := by unfold msgB; simp; omega
    simp [this]
  refine snd_list (β := Unit) a4.data.toList (fun pre _ => ⟨[(63, .int .i64 pre.length), (62, .int .i64 a4.size), (61, .str a4), (1, .ptr 0 0)], [.cells (Cm.enc ⟨a1, a2, a3, a4, a5⟩)], []⟩) (fun pre _ _ => pre.all fun c => decide (32 ≤ c.toNat) && decide (c.toNat ≤ 126)) () ?_ rfl ?_ ?_
  · simp -implicitDefEqProofs only [go_sem]
    rfl
  · intro _ i1
    have hmsg : msgB a4 = true := by
      unfold msgB
      rw [show (a4.data.toList.all fun c => decide (32 ≤ c.toNat) && decide (c.toNat ≤ 126)) = true from i1]
      simp; omega
    simp -implicitDefEqProofs only [go_sem, size_list, hmsg]
    refine fun _ => fun ho => ⟨fun c => ?_, fun c => fun _ => fun _ => ?_⟩
    · rw [if_pos (by omega)]
    rw [if_neg (by omega)]
    refine snd_list (β := Unit) a5 (fun pre _ => ⟨[(86, .int .i64 pre.length), (85, .int .i64 a5.length), (84, sl 60 (a5.map Rf.enc)), (1, .ptr 0 0)], [.cells (Cm.enc ⟨a1, a2, a3, a4, a5⟩)], []⟩) (fun pre _ _ => ∀ r ∈ pre, rfErr r = 0) () ?_ (by simp) ?_ ?_
    · simp -implicitDefEqProofs only [go_sem]
      rfl
    · intro _ i2
      simp -implicitDefEqProofs only [go_sem]
      have := opsErr_app a5 [] i2
      rw [List.append_nil] at this
      rw [this]
      rfl
    · rintro pre x post _ rfl i2
      have hx := hc.o1 x (by simp)
      have he := opsErr_app pre (x :: post) i2
      rw [he]
      simp -implicitDefEqProofs only [go_sem]
      refine (Rprint x hx).calls (by simp -implicitDefEqProofs only [go_sem]) ?_
      simp -implicitDefEqProofs only [go_sem, printV]
      refine ⟨fun d => ?_, fun d => ⟨(), ?_, wrap_next (mid_len' ho (by decide))⟩⟩
      · have d : rfErr x ≠ 0 := by simpa using d
        rw [opsErr, if_neg d]
      · have d : rfErr x = 0 := by simpa using d
        intro r hr
        rcases List.mem_append.1 hr with h | h
        · exact i2 r h
        · rw [List.mem_singleton.1 h]; exact d
  · rintro pre x post _ hx i1
    have hz := size_mid hx
    have bad : (decide (32 ≤ x.toNat) && decide (x.toNat ≤ 126)) = false → msgB a4 = false := fun h => by
      have : (a4.data.toList.all fun c => decide (32 ≤ c.toNat) && decide (c.toNat ≤ 126)) = false := by rw [hx, List.all_append, List.all_cons, h]; simp
      unfold msgB
      rw [this]; simp
    simp -implicitDefEqProofs only [go_sem, hz, byteAt_mid hx]
    refine ⟨fun c1 => ⟨fun c2 => ?_, fun c2 => ⟨(), ?_, wrap_next (mid_len (by rw [← hz]; exact hs))⟩⟩, fun c1 => ?_⟩
    · simp [bad (by simp; omega)]
    · rw [List.all_append, i1]
      simp
      omega
    · simp [bad (by simp; omega)]
def flatB {α : Type} (f : α → List UInt8) (l : List α) : ByteArray := toB (l.map f).flatten
theorem flatB_nil {α : Type} {f : α → List UInt8} : flatB f [] = ⟨#[]⟩ := rfl
theorem flatB_snoc {α : Type} {f : α → List UInt8} {l : List α} {x : α} : flatB f (l ++ [x]) = flatB f l ++ toB (f x) := ba_ext (by rw [ba_append]; simp [flatB, toB_list])
theorem tellO_same {N : Nat} {o : VObj} : tellO N o o := by
  have := tellH_same (N := N) (h := [o])
  simpa [tellH] using this
theorem parentB {n : Int} : toB (parentE n) = ⟨#[32]⟩ ++ itoaB n := ba_ext (by rw [ba_append]; rfl)
theorem toB_size {l : List UInt8} : (toB l).size = l.length := by rw [size_list]; rfl
theorem framedB_list (s : ByteArray) : (framedB s).data.toList = textE (str s) := by
  simp only [framedB, ba_append, textE, str, size_list, List.append_assoc]
  rfl
theorem fileEB {f : Fl} : toB (fileE f) = framedB f.path ++ ⟨#[32]⟩ ++ framedB f.text ++ ⟨#[10]⟩ := ba_ext (by simp only [ba_append, framedB_list, toB_list, fileE, List.append_assoc]; rfl)
theorem opEB {r : Rf} : toB (opE r) = framedB (rfText r) ++ ⟨#[10]⟩ := ba_ext (by simp only [ba_append, framedB_list, toB_list, opE])
theorem opsErr_zero : ∀ l : List Rf, opsErr l = 0 → ∀ r ∈ l, rfErr r = 0
  | [], _, r, hr => by simp at hr
  | x :: l, h, r, hr => by
    rw [opsErr] at h
    split at h
    · rename_i h0
      rcases List.mem_cons.1 hr with e | e
      · exact e ▸ h0
      · exact opsErr_zero l h r e
    · rename_i h0
      exact absurd h h0
theorem cmErr_ops {c : Cm} (h : cmErr c = 0) : ∀ r ∈ c.ops, rfErr r = 0 := by
  unfold cmErr at h
  split at h
  · cases h
  split at h
  · cases h
  split at h
  · rename_i h0
    exact absurd h h0
  split at h
  · cases h
  split at h
  · cases h
  exact opsErr_zero _ h
theorem rfErr_lens {r : Rf} (h : rfErr r = 0) : r.order.length ≤ 16 ∧ r.types.length ≤ 16 ∧ r.texts.length ≤ 16 := by
  unfold rfErr at h
  repeat' (split at h; · cases h)
  omega
theorem rfText_size (r : Rf) (h : r.ok) (h0 : rfErr r = 0) : (rfText r).size ≤ 100000000 := by
  have hle := rfErr_lens h0
  obtain ⟨s1, s2, s3, s4, s5, n1, n2, n3, n4, n5, l1, l2, l3, t1, t2⟩ := h
  have f1 := fieldB_size ⟨#[112, 97, 116, 104]⟩ r.path
  have f2 := fieldB_size ⟨#[99, 108, 97, 115, 115]⟩ r.cls
  have f3 := fieldB_size ⟨#[102, 117, 110, 99]⟩ r.fn
  have f4 := fieldB_size ⟨#[110, 97, 109, 101]⟩ r.name
  have f5 := fieldB_size ⟨#[116, 111]⟩ r.new
  have f6 := fieldB_size ⟨#[110, 111, 100, 101]⟩ (numB r.node)
  have f7 := fieldB_size ⟨#[112, 111, 115]⟩ (numB r.pos)
  have f8 := fieldB_size ⟨#[111, 114, 100, 101, 114]⟩ (joinB (r.order.map itoaB))
  have f9 := fieldB_size ⟨#[116, 121, 112, 101, 115]⟩ (joinB r.types)
  have f10 := fieldB_size ⟨#[116, 101, 120, 116, 115]⟩ (joinB (r.texts.map (swapB 32 126)))
  have k1 : (⟨#[112, 97, 116, 104]⟩ : ByteArray).size = 4 := rfl
  have k2 : (⟨#[99, 108, 97, 115, 115]⟩ : ByteArray).size = 5 := rfl
  have k3 : (⟨#[102, 117, 110, 99]⟩ : ByteArray).size = 4 := rfl
  have k4 : (⟨#[110, 97, 109, 101]⟩ : ByteArray).size = 4 := rfl
  have k5 : (⟨#[116, 111]⟩ : ByteArray).size = 2 := rfl
  have k6 : (⟨#[110, 111, 100, 101]⟩ : ByteArray).size = 4 := rfl
  have k7 : (⟨#[112, 111, 115]⟩ : ByteArray).size = 3 := rfl
  have k8 : (⟨#[111, 114, 100, 101, 114]⟩ : ByteArray).size = 5 := rfl
  have k9 : (⟨#[116, 121, 112, 101, 115]⟩ : ByteArray).size = 5 := rfl
  have k10 : (⟨#[116, 101, 120, 116, 115]⟩ : ByteArray).size = 5 := rfl
  have z7 : (numB r.node).size ≤ 21 := by unfold numB; split; exact Nat.zero_le _; exact itoaB_size _ n1 n2
  have z8 : (numB r.pos).size ≤ 21 := by unfold numB; split; exact Nat.zero_le _; exact itoaB_size _ n3 n4
  have hws : (wordB r.kind).size ≤ 9 := by
    unfold wordB
    repeat' split
    all_goals decide
  have j9 := joinB_size 21 (r.order.map itoaB) (by
    intro x hx
    obtain ⟨n, hn, rfl⟩ := List.mem_map.1 hx
    exact itoaB_size n (n5 n hn).1 (n5 n hn).2)
  have j10 := joinB_size 1000000 r.types t1
  have j11 := joinB_size 1000000 (r.texts.map (swapB 32 126)) (by
    intro x hx
    obtain ⟨n, hn, rfl⟩ := List.mem_map.1 hx
    rw [swapB_size]
    exact t2 n hn)
  rw [List.length_map] at j9 j11
  unfold rfText
  simp only [ByteArray.size_append]
  omega
theorem ba_commit {a1 : Int} {a2 : List Int} {a3 : List Fl} {a4 : ByteArray} {a5 : List Rf} : toB (commitE ⟨a1, a2, a3, a4, a5⟩) =
    ⟨#[99, 111, 109, 109, 105, 116, 32]⟩ ++ itoaB a1 ++ ⟨#[10, 112, 97, 114, 101, 110, 116, 115, 32]⟩ ++ itoaB a2.length ++ flatB parentE a2 ++ (⟨#[10, 109, 101, 115, 115, 97, 103, 101, 32]⟩ ++ framedB a4 ++ ⟨#[10, 102, 105, 108, 101, 115, 32]⟩ ++ itoaB a3.length ++ ⟨#[10]⟩) ++ flatB fileE a3 ++
      (⟨#[111, 112, 115, 32]⟩ ++ itoaB a5.length ++ ⟨#[10]⟩) ++ flatB opE a5 ++ ⟨#[101, 110, 100, 10]⟩ := by
  apply ba_ext
  simp only [ba_append, framedB_list, toB_list, commitE, flatB, List.append_assoc]
  rfl
theorem Cencode (c : Cm) (hc : c.ok) : VPure env 8 [.agg c.enc] (encodeV c) := by
  obtain ⟨a1, a2, a3, a4, a5⟩ := c
  refine vpure_vc (fn := Tryz.f8) Tryz.func8 rfl (by rw [Tryz.ntmps8]; simp) (by simp -implicitDefEqProofs only [go_sem]) rfl ?_
  simp -implicitDefEqProofs only [go_sem, Tryz.f8]
  refine (Ccheck _ hc).calls (by simp -implicitDefEqProofs only [go_sem]) ?_
  simp -implicitDefEqProofs only [go_sem]
  refine ⟨fun d => ?_, fun d => ?_⟩
  · have d : cmErr ⟨a1, a2, a3, a4, a5⟩ ≠ 0 := by simpa using d
    simp [encodeV, cmText, d]
  have d : cmErr ⟨a1, a2, a3, a4, a5⟩ = 0 := by simpa using d
  obtain ⟨i1, i2, p1, l1, l2, l3, f1, m1, o1⟩ := id hc
  simp only at i1 i2 p1 l1 l2 l3 f1 m1 o1
  have z1 := itoaB_size a1 i1 i2
  have z2 := itoaB_size a2.length (by omega) (by omega)
  have y1 : (#[99, 111, 109, 109, 105, 116, 32] : Array UInt8).size = 7 := rfl
  have y2 : (#[10, 112, 97, 114, 101, 110, 116, 115, 32] : Array UInt8).size = 9 := rfl
  have y3 : (⟨#[99, 111, 109, 109, 105, 116, 32]⟩ : ByteArray).size = 7 := rfl
  have y4 : (⟨#[10, 112, 97, 114, 101, 110, 116, 115, 32]⟩ : ByteArray).size = 9 := rfl
  have y5 : (⟨#[32]⟩ : ByteArray).size = 1 := rfl
  have y6 : (#[32] : Array UInt8).size = 1 := rfl
  have y0 : (⟨#[]⟩ : ByteArray).size = 0 := rfl
  refine snd_draw (cs := [10]) mixed (by kernel_rfl) ?_
  simp -implicitDefEqProofs only [go_sem]
  refine vPC_of (Itoa a1 i1 i2 (by omega)) rfl ?_
  simp -implicitDefEqProofs only [go_sem]
  refine ⟨by omega, by omega, ?_⟩
  refine vPC_of (Itoa a2.length (by omega) (by omega) (by omega)) rfl ?_
  simp -implicitDefEqProofs only [go_sem]
  refine ⟨by omega, ?_⟩
  refine WriteString rfl rfl (id := 1) rfl rfl (by simp only [ByteArray.size_append]; omega) ?_
  rw [nil_ba]
  simp -implicitDefEqProofs only [go_sem]
  refine fun _ => fun hl => ?_
  generalize hs1 : ⟨#[99, 111, 109, 109, 105, 116, 32]⟩ ++ itoaB a1 ++ ⟨#[10, 112, 97, 114, 101, 110, 116, 115, 32]⟩ ++ itoaB a2.length = s1
  have q1 : s1.size ≤ 100 := by rw [← hs1]; simp only [ByteArray.size_append]; omega
  refine snd_list (β := Unit) a2 (fun pre _ => ⟨[(33, .int .i64 pre.length), (32, .int .i64 a2.length), (31, sl 3 (a2.map encI)), (5, .ptr 1 0), (1, .ptr 0 0)],
      [.cells (Cm.enc ⟨a1, a2, a3, a4, a5⟩), .builder 64 (s1 ++ flatB parentE pre)], []⟩)
    (fun pre _ _ => (flatB parentE pre).size ≤ 22 * pre.length) () ?_ (Nat.le_refl _) ?_ ?_
  · simp -implicitDefEqProofs only [go_sem, flatB_nil, ba_nil]
    rfl
  · intro _ k1
    generalize hs2 : s1 ++ flatB parentE a2 = s2
    have q2 : s2.size ≤ 100 + 22 * a2.length := by rw [← hs2]; simp only [ByteArray.size_append]; omega
    simp -implicitDefEqProofs only [go_sem]
    have zm := framedB_size a4 (by omega)
    have z3 := itoaB_size a3.length (by omega) (by omega)
    have x1 : (#[10, 109, 101, 115, 115, 97, 103, 101, 32] : Array UInt8).size = 9 := rfl
    have x2 : (#[10, 102, 105, 108, 101, 115, 32] : Array UInt8).size = 7 := rfl
    have x3 : (#[10] : Array UInt8).size = 1 := rfl
    have x4 : (⟨#[10, 109, 101, 115, 115, 97, 103, 101, 32]⟩ : ByteArray).size = 9 := rfl
    have x5 : (⟨#[10, 102, 105, 108, 101, 115, 32]⟩ : ByteArray).size = 7 := rfl
    have x6 : (⟨#[10]⟩ : ByteArray).size = 1 := rfl
    refine snd_draw (cs := [11]) mixed (by kernel_rfl) ?_
    simp -implicitDefEqProofs only [go_sem]
    refine vPC_of (Cframed a4 (by omega)) rfl ?_
    simp -implicitDefEqProofs only [go_sem]
    refine ⟨by omega, by omega, ?_⟩
    refine vPC_of (Itoa a3.length (by omega) (by omega) (by omega)) rfl ?_
    simp -implicitDefEqProofs only [go_sem]
    refine ⟨by omega, by omega, ?_⟩
    refine WriteString rfl rfl (id := 1) rfl rfl (by simp only [ByteArray.size_append]; omega) ?_
    simp -implicitDefEqProofs only [go_sem]
    refine fun _ => fun hl3 => ?_
    generalize hs3 : s2 ++ (⟨#[10, 109, 101, 115, 115, 97, 103, 101, 32]⟩ ++ framedB a4 ++ ⟨#[10, 102, 105, 108, 101, 115, 32]⟩ ++ itoaB a3.length ++ ⟨#[10]⟩) = s3
    have q3 : s3.size ≤ 2000000 := by rw [← hs3]; simp only [ByteArray.size_append]; omega
    refine snd_list (β := Unit) a3 (fun pre _ => ⟨[(57, .int .i64 pre.length), (56, .int .i64 a3.length), (55, sl 34 (a3.map Fl.enc)), (5, .ptr 1 0), (1, .ptr 0 0)],
        [.cells (Cm.enc ⟨a1, a2, a3, a4, a5⟩), .builder 64 (s3 ++ flatB fileE pre)], []⟩)
      (fun pre _ _ => (flatB fileE pre).size ≤ 2000100 * pre.length) () ?_ (Nat.le_refl _) ?_ ?_
    · simp -implicitDefEqProofs only [go_sem, flatB_nil, ba_nil]
      rfl
    · intro _ k2
      generalize hs4 : s3 ++ flatB fileE a3 = s4
      have q4 : s4.size ≤ 2000000 + 2000100 * a3.length := by rw [← hs4]; simp only [ByteArray.size_append]; omega
      simp -implicitDefEqProofs only [go_sem]
      have z5 := itoaB_size a5.length (by omega) (by omega)
      have x7 : (#[111, 112, 115, 32] : Array UInt8).size = 4 := rfl
      have x8 : (⟨#[111, 112, 115, 32]⟩ : ByteArray).size = 4 := rfl
      refine fun _ => fun _ => ?_
      refine (Itoa a5.length (by omega) (by omega) (by omega)).calls rfl ?_
      simp -implicitDefEqProofs only [go_sem]
      refine ⟨by omega, by omega, ?_⟩
      refine WriteString rfl rfl (id := 1) rfl rfl (by simp only [ByteArray.size_append]; omega) ?_
      simp -implicitDefEqProofs only [go_sem]
      refine fun _ => fun hl5 => ?_
      generalize hs5 : s4 ++ (⟨#[111, 112, 115, 32]⟩ ++ itoaB a5.length ++ ⟨#[10]⟩) = s5
      have q5 : s5.size ≤ 3000000 + 2000100 * a3.length := by rw [← hs5]; simp only [ByteArray.size_append]; omega
      have hops := cmErr_ops d
      simp only at hops
      refine snd_list (β := Unit) a5 (fun pre _ => ⟨[(82, .int .i64 pre.length), (81, .int .i64 a5.length), (80, sl 60 (a5.map Rf.enc)), (5, .ptr 1 0), (1, .ptr 0 0)],
          [.cells (Cm.enc ⟨a1, a2, a3, a4, a5⟩), .builder 64 (s5 ++ flatB opE pre)], []⟩)
        (fun pre _ _ => (flatB opE pre).size ≤ 100000100 * pre.length) () ?_ (Nat.le_refl _) ?_ ?_
      · simp -implicitDefEqProofs only [go_sem, flatB_nil, ba_nil]
        rfl
      · intro _ k3
        simp -implicitDefEqProofs only [go_sem]
        have x9 : (⟨#[101, 110, 100]⟩ ++ ⟨#[10]⟩ : ByteArray).size = 4 := rfl
        have x10 : (⟨#[101, 110, 100, 10]⟩ : ByteArray).size = 4 := rfl
        refine WriteString rfl rfl (id := 1) rfl rfl (by simp only [ByteArray.size_append]; omega) ?_
        simp -implicitDefEqProofs only [go_sem]
        refine BString rfl rfl (id := 1) rfl (by simp only [ByteArray.size_append]; omega) (by simp only [ByteArray.size_append]; omega) ?_
        simp -implicitDefEqProofs only [go_sem]
        simp only [encodeV, cmText, d, if_true]
        rw [ba_commit]
        subst hs1; subst hs2; subst hs3; subst hs4; subst hs5
        rfl
      · rintro pre x post _ rfl k3
        have hx := o1 x (by simp)
        have hx0 := hops x (by simp)
        have hpl : (pre ++ x :: post).length = pre.length + (post.length + 1) := by simp
        have zr := rfText_size x hx hx0
        have zf := framedB_size (rfText x) (by omega)
        simp -implicitDefEqProofs only [go_sem]
        refine (Rprint x hx).calls (by simp -implicitDefEqProofs only [go_sem]) ?_
        simp -implicitDefEqProofs only [go_sem, printV, hx0]
        refine (Cframed _ (by omega)).calls rfl ?_
        simp -implicitDefEqProofs only [go_sem]
        refine ⟨by omega, ?_⟩
        refine WriteString rfl rfl (id := 1) rfl rfl (by simp only [ByteArray.size_append]; omega) ?_
        simp -implicitDefEqProofs only [go_sem]
        rw [flatB_snoc, ← opEB, ba_assoc]
        refine ⟨(), ?_, wrap_next (by omega), tellO_same⟩
        rw [opEB]
        simp only [ByteArray.size_append]
        omega
    · rintro pre x post _ rfl k2
      have hx := f1 x (by simp)
      have hpl : (pre ++ x :: post).length = pre.length + (post.length + 1) := by simp
      have zp := framedB_size x.path (by omega)
      have zt := framedB_size x.text (by omega)
      simp -implicitDefEqProofs only [go_sem, Fl.enc]
      refine snd_draw (cs := [9]) mixed (by kernel_rfl) ?_
      simp -implicitDefEqProofs only [go_sem]
      refine vPC_of (Cframed x.path (by omega)) rfl ?_
      simp -implicitDefEqProofs only [go_sem]
      refine ⟨by omega, ?_⟩
      refine vPC_of (Cframed x.text (by omega)) rfl ?_
      simp -implicitDefEqProofs only [go_sem]
      refine ⟨by omega, by omega, ?_⟩
      refine WriteString rfl rfl (id := 1) rfl rfl (by simp only [ByteArray.size_append]; omega) ?_
      simp -implicitDefEqProofs only [go_sem]
      rw [flatB_snoc, ← fileEB, ba_assoc]
      refine ⟨(), ?_, wrap_next (by omega), tellO_same⟩
      rw [fileEB]
      simp only [ByteArray.size_append]
      omega
  · rintro pre x post _ rfl k1
    have hx := p1 x (by simp)
    have zx := itoaB_size x hx.1 hx.2
    have hpl : (pre ++ x :: post).length = pre.length + (post.length + 1) := by simp
    simp -implicitDefEqProofs only [go_sem, encI]
    refine (Itoa x hx.1 hx.2 (by omega)).calls rfl ?_
    simp -implicitDefEqProofs only [go_sem]
    refine ⟨by omega, ?_⟩
    refine WriteString rfl rfl (id := 1) rfl rfl (by simp only [ByteArray.size_append]; omega) ?_
    simp -implicitDefEqProofs only [go_sem]
    rw [flatB_snoc, ← parentB, ba_assoc]
    refine ⟨(), ?_, wrap_next (by omega), tellO_same⟩
    have : (toB (parentE x)).size = 1 + (itoaB x).size := by rw [parentB, ByteArray.size_append, y5]
    rw [ByteArray.size_append]
    omega
theorem Cdigest (c : Cm) (hc : c.ok) : VPure env 11 [.agg c.enc] (digestV c) := by
  obtain ⟨a1, a2, a3, a4, a5⟩ := c
  refine vpure_vc (fn := Tryz.f11) Tryz.func11 rfl (by rw [Tryz.ntmps11]; simp) (by simp -implicitDefEqProofs only [go_sem]) rfl ?_
  simp -implicitDefEqProofs only [go_sem, Tryz.f11]
  refine (Cencode _ hc).calls (by simp -implicitDefEqProofs only [go_sem]) ?_
  simp -implicitDefEqProofs only [go_sem, encodeV]
  refine ⟨fun d => ?_, fun d => ?_⟩
  · have d : cmErr ⟨a1, a2, a3, a4, a5⟩ ≠ 0 := by simpa using d
    simp [digestV, d]
  have d : cmErr ⟨a1, a2, a3, a4, a5⟩ = 0 := by simpa using d
  refine (DSum _).calls rfl ?_
  simp -implicitDefEqProofs only [go_sem]
  simp only [digestV, d, if_true, cmText, toB_list]
end Go.Proofs.YtellnbgljmocgaaGreatDoor
