/- The reference's commits. -/
import Derived.Test.YtellnbgljmocgaaGreatDoorTrC
set_option linter.unusedVariables false
set_option linter.unusedSimpArgs false
set_option maxRecDepth 20000
namespace Go.Proofs.YtellnbgljmocgaaGreatDoor
open Go Go.Vg Go.Proofs
theorem R51text (s : ByteArray) (hs : s.size ≤ 100000000000) : VPure env 45 [.str s] (.str (framedB s)) := by
  refine vpure_vc (fn := Tryz.f45) Tryz.func45 rfl (by rw [Tryz.ntmps45]; simp) rfl rfl ?_
  simp -implicitDefEqProofs only [go_sem, Tryz.f45]
  intro _
  have := itoaB_size s.size (by omega) (by omega)
  refine (R03Decimal s.size (by omega) (by omega)).calls rfl ?_
  simp -implicitDefEqProofs only [go_sem]
  have e : (#[58] : Array UInt8).size = 1 := rfl
  exact ⟨by omega, by omega, rfl⟩
theorem R51Check (c : Cm) (hc : c.ok) : VPure env 43 [.agg c.enc] (.int .i64 (cmErr c)) := by
  obtain ⟨a1, a2, a3, a4, a5⟩ := c
  refine vpure_snd (fn := Tryz.f43) Tryz.func43 rfl (by rw [Tryz.ntmps43]; simp) (by simp -implicitDefEqProofs only [go_sem]) rfl ?_
  simp only [Tryz.f43]
  refine snd_cut ⟨[(1, .ptr 0 0)], [.cells (Cm.enc ⟨a1, a2, a3, a4, a5⟩)], []⟩ (by simp -implicitDefEqProofs only [go_sem]) ?_
  by_cases h0 : a1 < 0 ∨ 256 ≤ a1
  · refine vc_snd _ _ _ ?_
    have : cmErr ⟨a1, a2, a3, a4, a5⟩ = 2 := by unfold cmErr; rw [if_pos h0]
    rw [this]
    by_cases h1 : a1 < 0
    · simp -implicitDefEqProofs only [go_sem, h1]
    · have h2 : 256 ≤ a1 := by omega
      simp -implicitDefEqProofs only [go_sem, h1, h2]
  have h1 : ¬ a1 < 0 := by omega
  have h2 : ¬ 256 ≤ a1 := by omega
  refine snd_cut ⟨[(1, .ptr 0 0)], [.cells (Cm.enc ⟨a1, a2, a3, a4, a5⟩)], []⟩ (by simp -implicitDefEqProofs only [go_sem, h1, h2]) ?_
  cases hp : parentsB ⟨a1, a2, a3, a4, a5⟩ with
  | false =>
    have : cmErr ⟨a1, a2, a3, a4, a5⟩ = 14 := by unfold cmErr; rw [if_neg h0, if_pos (by rw [hp]; rfl)]
    rw [this]
    refine vc_snd _ _ _ ?_
    simp -implicitDefEqProofs only [go_sem]
    refine (R51Parents ⟨a1, a2, a3, a4, a5⟩).calls (by simp -implicitDefEqProofs only [go_sem]) ?_
    simp -implicitDefEqProofs only [go_sem, hp]
  | true =>
  refine snd_cut ⟨[(1, .ptr 0 0)], [.cells (Cm.enc ⟨a1, a2, a3, a4, a5⟩)], []⟩ ?_ ?_
  · simp -implicitDefEqProofs only [go_sem]
    refine (R51Parents ⟨a1, a2, a3, a4, a5⟩).calls (by simp -implicitDefEqProofs only [go_sem]) ?_
    simp -implicitDefEqProofs only [go_sem, hp]
  have hk : cmErr ⟨a1, a2, a3, a4, a5⟩ = tailErr ⟨a1, a2, a3, a4, a5⟩ := by unfold cmErr tailErr; rw [if_neg h0, if_neg (by rw [hp]; simp)]
  rw [hk]
  refine vc_snd _ _ _ ?_
  simp -implicitDefEqProofs only [go_sem]
  refine (R11Check a3).calls (by simp -implicitDefEqProofs only [go_sem]) ?_
  simp -implicitDefEqProofs only [go_sem]
  refine ⟨fun e => ?_, fun e => (R51Message a4).calls rfl ?_⟩
  · rw [tailErr, if_pos (by simpa using e)]
  have e : filesErr a3 = 0 := by simpa using e
  simp -implicitDefEqProofs only [go_sem]
  refine ⟨fun m => ?_, fun m => ?_⟩
  · have m : msgB a4 = false := by simpa using m
    simp [tailErr, e, m]
  have m : msgB a4 = true := by simpa using m
  refine fun _ _ => ⟨fun q => ?_, fun q => ?_⟩
  · have q : 64 < a5.length := by omega
    simp [tailErr, e, m, q]
  have q : ¬ 64 < a5.length := by omega
  have ht : tailErr ⟨a1, a2, a3, a4, a5⟩ = opsErr a5 := by simp [tailErr, e, m, q]
  rw [ht]
  refine snd_list (β := Unit) a5 (fun pre _ => ⟨[(4, .int .i64 pre.length), (1, .ptr 0 0)], [.cells (Cm.enc ⟨a1, a2, a3, a4, a5⟩)], []⟩) (fun pre _ _ => ∀ r ∈ pre, rfErr r = 0) () ?_ (by simp) ?_ ?_
  · simp -implicitDefEqProofs only [go_sem]
    rfl
  · intro _ i1
    have hz := opsErr_app a5 [] i1
    rw [List.append_nil] at hz
    rw [hz]
    simp -implicitDefEqProofs only [go_sem]
    exact fun _ _ => rfl
  · rintro pre x post _ rfl i1
    have hl2 : ((pre.length : Int) < ((pre ++ x :: post).length : Int)) = True := mid_lt
    simp -implicitDefEqProofs only [go_sem, hl2]
    refine fun _ h2 => (R49Print x (hc.o1 x (by simp))).calls (by simp -implicitDefEqProofs only [go_sem]) ?_
    simp -implicitDefEqProofs only [go_sem, printV]
    refine ⟨fun z => ?_, fun z => ⟨(), fun s hs => ?_, wrap_next (mid_len' h2 (by decide))⟩⟩
    · have z : rfErr x ≠ 0 := by simpa using z
      rw [opsErr_app pre (x :: post) i1, opsErr, if_neg z]
    · rcases List.mem_append.1 hs with hs | hs
      · exact i1 s hs
      · rw [List.mem_singleton.1 hs]; simpa using z
theorem R51Encode (c : Cm) (hc : c.ok) : VPure env 21 [.agg c.enc] (encodeV c) := by
  obtain ⟨a1, a2, a3, a4, a5⟩ := c
  refine vpure_vc (fn := Tryz.f21) Tryz.func21 rfl (by rw [Tryz.ntmps21]; simp) (by simp -implicitDefEqProofs only [go_sem]) rfl ?_
  simp -implicitDefEqProofs only [go_sem, Tryz.f21]
  refine (R51Check _ hc).calls (by simp -implicitDefEqProofs only [go_sem]) ?_
  simp -implicitDefEqProofs only [go_sem]
  refine ⟨fun d => ?_, fun d => ?_⟩
  · have d : cmErr ⟨a1, a2, a3, a4, a5⟩ ≠ 0 := by simpa using d
    simp [encodeV, cmText, d]
  have d : cmErr ⟨a1, a2, a3, a4, a5⟩ = 0 := by simpa using d
  obtain ⟨i1, i2, p1, l1, l2, l3, f1, m1, o1⟩ := id hc
  simp only at i1 i2 p1 l1 l2 l3 f1 m1 o1
  have z1 := itoaB_size a1 i1 i2
  have z2 := itoaB_size a2.length (by omega) (by omega)
  have z3 := itoaB_size a3.length (by omega) (by omega)
  have z5 := itoaB_size a5.length (by omega) (by omega)
  have y1 : (#[99, 111, 109, 109, 105, 116, 32] : Array UInt8).size = 7 := rfl
  have y2 : (#[10, 112, 97, 114, 101, 110, 116, 115, 32] : Array UInt8).size = 9 := rfl
  have y3 : (⟨#[99, 111, 109, 109, 105, 116, 32]⟩ : ByteArray).size = 7 := rfl
  have y4 : (⟨#[10, 112, 97, 114, 101, 110, 116, 115, 32]⟩ : ByteArray).size = 9 := rfl
  have y6 : (#[32] : Array UInt8).size = 1 := rfl
  have hid : 0 ≤ a1 ∧ a1 < 256 := by
    have h0 : ¬ (a1 < 0 ∨ 256 ≤ a1) := fun h => by unfold cmErr at d; rw [if_pos h] at d; cases d
    omega
  have hpar : ∀ n ∈ a2, 0 ≤ n ∧ n < 256 := by
    have h0 : ¬ (a1 < 0 ∨ 256 ≤ a1) := by omega
    have hp : parentsB ⟨a1, a2, a3, a4, a5⟩ = true := by
      cases hp : parentsB ⟨a1, a2, a3, a4, a5⟩ with
      | true => rfl
      | false => unfold cmErr at d; rw [if_neg h0, hp] at d; cases d
    rw [parentsB_eq] at hp
    simp only [Bool.and_eq_true, List.all_eq_true, decide_eq_true_eq] at hp
    intro n hn
    have := hp.2 n hn
    omega
  refine snd_draw (cs := []) mixed (by kernel_rfl) ?_
  simp -implicitDefEqProofs only [go_sem]
  refine vPC_of (R03Decimal a1 hid.1 (by omega)) rfl ?_
  simp -implicitDefEqProofs only [go_sem]
  refine ⟨by omega, by omega, ?_⟩
  refine vPC_of (R03Decimal a2.length (by omega) (by omega)) rfl ?_
  simp -implicitDefEqProofs only [go_sem]
  refine ⟨by omega, ?_⟩
  generalize hs1 : ⟨#[99, 111, 109, 109, 105, 116, 32]⟩ ++ itoaB a1 ++ ⟨#[10, 112, 97, 114, 101, 110, 116, 115, 32]⟩ ++ itoaB a2.length = s1
  have q1 : s1.size ≤ 100 := by rw [← hs1]; simp only [ByteArray.size_append]; omega
  refine snd_list (β := Unit) a2 (fun pre _ => ⟨[(6, .int .i64 pre.length), (5, .str (s1 ++ flatB parentE pre)), (1, .ptr 0 0)], [.cells (Cm.enc ⟨a1, a2, a3, a4, a5⟩)], []⟩)
    (fun pre _ _ => (flatB parentE pre).size ≤ 22 * pre.length) () ?_ (Nat.le_refl _) ?_ ?_
  · simp -implicitDefEqProofs only [go_sem, flatB_nil, ba_nil]
    rfl
  · intro _ k1
    generalize hs2 : s1 ++ flatB parentE a2 = s2
    have q2 : s2.size ≤ 100 + 22 * a2.length := by rw [← hs2]; simp only [ByteArray.size_append]; omega
    simp -implicitDefEqProofs only [go_sem]
    have zm := framedB_size a4 (by omega)
    have x1 : (#[10, 109, 101, 115, 115, 97, 103, 101, 32] : Array UInt8).size = 9 := rfl
    have x2 : (#[10, 102, 105, 108, 101, 115, 32] : Array UInt8).size = 7 := rfl
    have x3 : (#[10] : Array UInt8).size = 1 := rfl
    have x4 : (⟨#[10, 109, 101, 115, 115, 97, 103, 101, 32]⟩ : ByteArray).size = 9 := rfl
    have x5 : (⟨#[10, 102, 105, 108, 101, 115, 32]⟩ : ByteArray).size = 7 := rfl
    have x6 : (⟨#[10]⟩ : ByteArray).size = 1 := rfl
    refine fun _ _ => ?_
    refine snd_draw (cs := []) mixed (by kernel_rfl) ?_
    simp -implicitDefEqProofs only [go_sem]
    refine ⟨by omega, vPC_of (R51text a4 (by omega)) rfl ?_⟩
    simp -implicitDefEqProofs only [go_sem]
    refine ⟨by omega, by omega, ?_⟩
    refine vPC_of (R03Decimal a3.length (by omega) (by omega)) rfl ?_
    simp -implicitDefEqProofs only [go_sem]
    refine ⟨by omega, by omega, ?_⟩
    have as3 : s2 ++ ⟨#[10, 109, 101, 115, 115, 97, 103, 101, 32]⟩ ++ framedB a4 ++ ⟨#[10, 102, 105, 108, 101, 115, 32]⟩ ++ itoaB a3.length ++ ⟨#[10]⟩ =
        s2 ++ (⟨#[10, 109, 101, 115, 115, 97, 103, 101, 32]⟩ ++ framedB a4 ++ ⟨#[10, 102, 105, 108, 101, 115, 32]⟩ ++ itoaB a3.length ++ ⟨#[10]⟩) := by
      apply ba_ext; simp only [ba_append, List.append_assoc]
    rw [as3]
    generalize hs3 : s2 ++ (⟨#[10, 109, 101, 115, 115, 97, 103, 101, 32]⟩ ++ framedB a4 ++ ⟨#[10, 102, 105, 108, 101, 115, 32]⟩ ++ itoaB a3.length ++ ⟨#[10]⟩) = s3
    have q3 : s3.size ≤ 2000000 := by rw [← hs3]; simp only [ByteArray.size_append]; omega
    refine snd_list (β := Unit) a3 (fun pre _ => ⟨[(7, .int .i64 pre.length), (5, .str (s3 ++ flatB fileE pre)), (1, .ptr 0 0)], [.cells (Cm.enc ⟨a1, a2, a3, a4, a5⟩)], []⟩)
      (fun pre _ _ => (flatB fileE pre).size ≤ 2000100 * pre.length) () ?_ (Nat.le_refl _) ?_ ?_
    · simp -implicitDefEqProofs only [go_sem, flatB_nil, ba_nil]
      rfl
    · intro _ k2
      generalize hs4 : s3 ++ flatB fileE a3 = s4
      have q4 : s4.size ≤ 2000000 + 2000100 * a3.length := by rw [← hs4]; simp only [ByteArray.size_append]; omega
      simp -implicitDefEqProofs only [go_sem]
      have x7 : (#[111, 112, 115, 32] : Array UInt8).size = 4 := rfl
      have x8 : (⟨#[111, 112, 115, 32]⟩ : ByteArray).size = 4 := rfl
      refine fun _ _ => ⟨by omega, fun _ _ => (R03Decimal a5.length (by omega) (by omega)).calls rfl ?_⟩
      simp -implicitDefEqProofs only [go_sem]
      refine ⟨by omega, by omega, ?_⟩
      have as5 : s4 ++ ⟨#[111, 112, 115, 32]⟩ ++ itoaB a5.length ++ ⟨#[10]⟩ = s4 ++ (⟨#[111, 112, 115, 32]⟩ ++ itoaB a5.length ++ ⟨#[10]⟩) := by
        apply ba_ext; simp only [ba_append, List.append_assoc]
      rw [as5]
      generalize hs5 : s4 ++ (⟨#[111, 112, 115, 32]⟩ ++ itoaB a5.length ++ ⟨#[10]⟩) = s5
      have q5 : s5.size ≤ 3000000 + 2000100 * a3.length := by rw [← hs5]; simp only [ByteArray.size_append]; omega
      have hops := cmErr_ops d
      simp only at hops
      refine snd_list (β := Unit) a5 (fun pre _ => ⟨[(8, .int .i64 pre.length), (5, .str (s5 ++ flatB opE pre)), (1, .ptr 0 0)], [.cells (Cm.enc ⟨a1, a2, a3, a4, a5⟩)], []⟩)
        (fun pre _ _ => (flatB opE pre).size ≤ 100000100 * pre.length) () ?_ (Nat.le_refl _) ?_ ?_
      · simp -implicitDefEqProofs only [go_sem, flatB_nil, ba_nil]
        rfl
      · intro _ k3
        simp -implicitDefEqProofs only [go_sem]
        have x10 : (#[101, 110, 100, 10] : Array UInt8).size = 4 := rfl
        refine fun _ _ => ⟨by omega, ?_⟩
        simp only [encodeV, cmText, d, if_true]
        rw [ba_commit]
        subst hs1; subst hs2; subst hs3; subst hs4; subst hs5
        rfl
      · rintro pre x post _ rfl k3
        have hx := o1 x (by simp)
        have hx0 := hops x (by simp)
        have hpl : (pre ++ x :: post).length = pre.length + (post.length + 1) := by simp
        have hl2 : ((pre.length : Int) < ((pre ++ x :: post).length : Int)) = True := mid_lt
        have zr := rfText_size x hx hx0
        have zf := framedB_size (rfText x) (by omega)
        simp -implicitDefEqProofs only [go_sem, hl2]
        refine fun _ _ => (R49Print x hx).calls (by simp -implicitDefEqProofs only [go_sem]) ?_
        simp -implicitDefEqProofs only [go_sem, printV, hx0]
        refine (R51text (rfText x) (by omega)).calls rfl ?_
        simp -implicitDefEqProofs only [go_sem]
        refine ⟨by omega, by omega, (), ?_, wrap_next (by omega), ?_⟩
        · rw [flatB_snoc, opEB]
          simp only [ByteArray.size_append]
          omega
        · rw [flatB_snoc, opEB]
          apply ba_ext; simp only [ba_append, List.append_assoc]
    · rintro pre x post _ rfl k2
      have hx := f1 x (by simp)
      have hpl : (pre ++ x :: post).length = pre.length + (post.length + 1) := by simp
      have hl2 : ((pre.length : Int) < ((pre ++ x :: post).length : Int)) = True := mid_lt
      have zp := framedB_size x.path (by omega)
      have zt := framedB_size x.text (by omega)
      simp -implicitDefEqProofs only [go_sem, Fl.enc, hl2]
      refine fun _ _ => ?_
      refine snd_draw (cs := []) mixed (by kernel_rfl) ?_
      simp -implicitDefEqProofs only [go_sem, Fl.enc, hl2]
      refine vPC_of (R51text x.path (by omega)) rfl ?_
      simp -implicitDefEqProofs only [go_sem, Fl.enc, hl2]
      refine ⟨by omega, by omega, vPC_of (R51text x.text (by omega)) rfl ?_⟩
      simp -implicitDefEqProofs only [go_sem]
      refine ⟨by omega, by omega, (), ?_, wrap_next (by omega), ?_⟩
      · rw [flatB_snoc, fileEB]
        have y7 : (⟨#[32]⟩ : ByteArray).size = 1 := rfl
        simp only [ByteArray.size_append]
        omega
      · rw [flatB_snoc, fileEB]
        apply ba_ext; simp only [ba_append, List.append_assoc]
  · rintro pre x post _ rfl k1
    have hx := p1 x (by simp)
    have hx2 := hpar x (by simp)
    have zx := itoaB_size x hx.1 hx.2
    have hl2 : ((pre.length : Int) < ((pre ++ x :: post).length : Int)) = True := mid_lt
    have hpl : (pre ++ x :: post).length = pre.length + (post.length + 1) := by simp
    simp -implicitDefEqProofs only [go_sem, encI, hl2]
    refine fun _ _ => ⟨by omega, (R03Decimal x hx2.1 (by omega)).calls rfl ?_⟩
    simp -implicitDefEqProofs only [go_sem]
    refine ⟨by omega, (), ?_, wrap_next (by omega), ?_⟩
    · rw [flatB_snoc]
      have : (toB (parentE x)).size = 1 + (itoaB x).size := by rw [parentB, ByteArray.size_append]; rfl
      rw [ByteArray.size_append]
      omega
    · rw [flatB_snoc, parentB]
      apply ba_ext; simp only [ba_append, List.append_assoc]
end Go.Proofs.YtellnbgljmocgaaGreatDoor
