/- Reading a commit. -/
import Derived.Test.YtellnbgljmocgaaGreatDoorTcI
import Derived.Test.YtellnbgljmocgaaGreatDoorVgW
set_option linter.unusedVariables false
set_option linter.unusedSimpArgs false
set_option maxRecDepth 20000
namespace Go.Vg
def noRf : Rf := ⟨0, ⟨#[]⟩, ⟨#[]⟩, ⟨#[]⟩, ⟨#[]⟩, ⟨#[]⟩, 0, 0, [], [], []⟩
def parseV (o : Option Rf) : V := match o with
  | some r => .tuple [.agg r.enc, .int .i64 0]
  | none => .tuple [.agg noRf.enc, .int .i64 1]
/-- A commit up to its operations: what is read, how many operations follow, and what is left. -/
def headP (l : List UInt8) : Option (Int × List Int × List Fl × List UInt8 × Int × List UInt8) := do
  let l ← wordP (str ⟨#[99, 111, 109, 109, 105, 116, 32]⟩) l
  let (id, l) ← numP l
  let l ← wordP (10 :: str ⟨#[112, 97, 114, 101, 110, 116, 115, 32]⟩) l
  let (np, l) ← numP l
  let (ps, l) ← repP parentP np.toNat l
  let l ← wordP (10 :: str ⟨#[109, 101, 115, 115, 97, 103, 101, 32]⟩) l
  let (m, l) ← textP l
  let l ← wordP (10 :: str ⟨#[102, 105, 108, 101, 115, 32]⟩) l
  let (nf, l) ← numP l
  let l ← wordP [10] l
  let (fs, l) ← repP fileP nf.toNat l
  let l ← wordP (str ⟨#[111, 112, 115, 32]⟩) l
  let (no, l) ← numP l
  let l ← wordP [10] l
  some (id, ps, fs, m, no, l)
theorem rep_none {α : Type} {p : List UInt8 → Option (α × List UInt8)} {n : Nat} {l : List UInt8} (hn : 0 < n) (h : p l = none) : repP p n l = none := by
  cases n with
  | zero => omega
  | succ n => simp only [repP, h, Option.bind_eq_bind, Option.bind_none]
theorem headP_eq (l : List UInt8) : headP l = ((wordP (str ⟨#[99, 111, 109, 109, 105, 116, 32]⟩) l).bind fun l1 => (numP l1).bind fun x2 => (wordP (str ⟨#[10, 112, 97, 114, 101, 110, 116, 115, 32]⟩) x2.2).bind fun l3 => (numP l3).bind fun x4 => (repP parentP x4.1.toNat x4.2).bind fun x5 =>
    (wordP (str ⟨#[10, 109, 101, 115, 115, 97, 103, 101, 32]⟩) x5.2).bind fun l7 => (textP l7).bind fun x8 => (wordP (str ⟨#[10, 102, 105, 108, 101, 115, 32]⟩) x8.2).bind fun l9 => (numP l9).bind fun x10 => (wordP (str ⟨#[10]⟩) x10.2).bind fun l11 =>
    (repP fileP x10.1.toNat l11).bind fun y => (wordP (str ⟨#[111, 112, 115, 32]⟩) y.2).bind fun l16 => (numP l16).bind fun x17 => (wordP (str ⟨#[10]⟩) x17.2).bind fun l18 => some (x2.1, x5.1, y.1, x8.1, x17.1, l18)) := rfl
theorem commitP_eq (parse : ByteArray → Option Rf) (l : List UInt8) : commitP parse l = ((wordP (str ⟨#[99, 111, 109, 109, 105, 116, 32]⟩) l).bind fun l1 => (numP l1).bind fun x2 => (wordP (str ⟨#[10, 112, 97, 114, 101, 110, 116, 115, 32]⟩) x2.2).bind fun l3 => (numP l3).bind fun x4 => (repP parentP x4.1.toNat x4.2).bind fun x5 =>
    (wordP (str ⟨#[10, 109, 101, 115, 115, 97, 103, 101, 32]⟩) x5.2).bind fun l7 => (textP l7).bind fun x8 => (wordP (str ⟨#[10, 102, 105, 108, 101, 115, 32]⟩) x8.2).bind fun l9 => (numP l9).bind fun x10 => (wordP (str ⟨#[10]⟩) x10.2).bind fun l11 =>
    (repP fileP x10.1.toNat l11).bind fun y => (wordP (str ⟨#[111, 112, 115, 32]⟩) y.2).bind fun l16 => (numP l16).bind fun x17 => (wordP (str ⟨#[10]⟩) x17.2).bind fun l18 => 
    (repP (opP parse) x17.1.toNat l18).bind fun z => (wordP (str ⟨#[101, 110, 100, 10]⟩) z.2).bind fun l20 => some (⟨x2.1, x5.1, y.1, toB x8.1, z.1⟩, l20)) := rfl
end Go.Vg
namespace Go.Proofs.YtellnbgljmocgaaGreatDoor
open Go Go.Vg Go.Proofs
def tr9 : Tr := (.br 0 (.br 1 (.br 2 (.br 3 (.br 4 (.br 5 (.br 6 (.br 7 .stop .stop) .stop) .stop) .stop) .stop) .stop) (.br 2 (.br 1 (.br 3 (.br 4 (.br 5 (.br 6 (.br 7 .stop .stop) .stop) .stop) .stop) .stop) (.br 3 (.br 1 (.br 4 (.br 5 (.br 6 (.br 7 .stop .stop) .stop) .stop) .stop) (.br 4 (.br 1 (.br 5 (.br 6 (.br 7 .stop .stop) .stop) .stop) .stop) .stop)) .stop)) .stop)) (.br 2 (.br 0 (.br 1 (.br 3 (.br 4 (.br 5 (.br 6 (.br 7 .stop .stop) .stop) .stop) .stop) .stop) (.br 3 (.br 1 (.br 4 (.br 5 (.br 6 (.br 7 .stop .stop) .stop) .stop) .stop) (.br 4 (.br 1 (.br 5 (.br 6 (.br 7 .stop .stop) .stop) .stop) .stop) .stop)) .stop)) (.br 3 (.br 0 (.br 1 (.br 4 (.br 5 (.br 6 (.br 7 .stop .stop) .stop) .stop) .stop) (.br 4 (.br 1 (.br 5 (.br 6 (.br 7 .stop .stop) .stop) .stop) .stop) .stop)) (.br 4 (.br 0 (.br 1 (.br 5 (.br 6 (.br 7 .stop .stop) .stop) .stop) .stop) .stop) .stop)) .stop)) .stop))
def tr19 : Tr := (.br 0 (.br 1 (.br 2 (.br 3 (.br 4 (.br 5 (.br 6 (.br 7 (.br 8 (.br 9 .stop .stop) .stop) .stop) .stop) .stop) .stop) .stop) (.br 3 (.br 2 (.br 4 (.br 5 (.br 6 (.br 7 (.br 8 (.br 9 .stop .stop) .stop) .stop) .stop) .stop) .stop) (.br 4 (.br 2 (.br 5 (.br 6 (.br 7 (.br 8 (.br 9 .stop .stop) .stop) .stop) .stop) .stop) .stop) .stop)) .stop)) (.br 2 (.br 1 (.br 3 (.br 4 (.br 5 (.br 6 (.br 7 (.br 8 (.br 9 .stop .stop) .stop) .stop) .stop) .stop) .stop) .stop) (.br 3 (.br 1 (.br 4 (.br 5 (.br 6 (.br 7 (.br 8 (.br 9 .stop .stop) .stop) .stop) .stop) .stop) .stop) (.br 4 (.br 1 (.br 5 (.br 6 (.br 7 (.br 8 (.br 9 .stop .stop) .stop) .stop) .stop) .stop) (.br 5 (.br 1 (.br 6 (.br 7 (.br 8 (.br 9 .stop .stop) .stop) .stop) .stop) (.br 6 (.br 1 (.br 7 (.br 8 (.br 9 .stop .stop) .stop) .stop) .stop) .stop)) .stop)) .stop)) .stop)) (.br 3 (.br 1 (.br 2 (.br 4 (.br 5 (.br 6 (.br 7 (.br 8 (.br 9 .stop .stop) .stop) .stop) .stop) .stop) .stop) (.br 4 (.br 2 (.br 5 (.br 6 (.br 7 (.br 8 (.br 9 .stop .stop) .stop) .stop) .stop) .stop) .stop) .stop)) (.br 2 (.br 1 (.br 4 (.br 5 (.br 6 (.br 7 (.br 8 (.br 9 .stop .stop) .stop) .stop) .stop) .stop) .stop) (.br 4 (.br 1 (.br 5 (.br 6 (.br 7 (.br 8 (.br 9 .stop .stop) .stop) .stop) .stop) .stop) (.br 5 (.br 1 (.br 6 (.br 7 (.br 8 (.br 9 .stop .stop) .stop) .stop) .stop) (.br 6 (.br 1 (.br 7 (.br 8 (.br 9 .stop .stop) .stop) .stop) .stop) .stop)) .stop)) .stop)) (.br 4 (.br 1 (.br 2 (.br 5 (.br 6 (.br 7 (.br 8 (.br 9 .stop .stop) .stop) .stop) .stop) .stop) .stop) (.br 2 (.br 1 (.br 5 (.br 6 (.br 7 (.br 8 (.br 9 .stop .stop) .stop) .stop) .stop) .stop) (.br 5 (.br 1 (.br 6 (.br 7 (.br 8 (.br 9 .stop .stop) .stop) .stop) .stop) (.br 6 (.br 1 (.br 7 (.br 8 (.br 9 .stop .stop) .stop) .stop) .stop) .stop)) .stop)) .stop)) .stop))) .stop))) (.br 2 (.br 0 (.br 1 (.br 3 (.br 4 (.br 5 (.br 6 (.br 7 (.br 8 (.br 9 .stop .stop) .stop) .stop) .stop) .stop) .stop) .stop) (.br 3 (.br 1 (.br 4 (.br 5 (.br 6 (.br 7 (.br 8 (.br 9 .stop .stop) .stop) .stop) .stop) .stop) .stop) (.br 4 (.br 1 (.br 5 (.br 6 (.br 7 (.br 8 (.br 9 .stop .stop) .stop) .stop) .stop) .stop) (.br 5 (.br 1 (.br 6 (.br 7 (.br 8 (.br 9 .stop .stop) .stop) .stop) .stop) (.br 6 (.br 1 (.br 7 (.br 8 (.br 9 .stop .stop) .stop) .stop) .stop) .stop)) .stop)) .stop)) .stop)) (.br 3 (.br 0 (.br 1 (.br 4 (.br 5 (.br 6 (.br 7 (.br 8 (.br 9 .stop .stop) .stop) .stop) .stop) .stop) .stop) (.br 4 (.br 1 (.br 5 (.br 6 (.br 7 (.br 8 (.br 9 .stop .stop) .stop) .stop) .stop) .stop) (.br 5 (.br 1 (.br 6 (.br 7 (.br 8 (.br 9 .stop .stop) .stop) .stop) .stop) (.br 6 (.br 1 (.br 7 (.br 8 (.br 9 .stop .stop) .stop) .stop) .stop) .stop)) .stop)) .stop)) (.br 4 (.br 0 (.br 1 (.br 5 (.br 6 (.br 7 (.br 8 (.br 9 .stop .stop) .stop) .stop) .stop) .stop) (.br 5 (.br 1 (.br 6 (.br 7 (.br 8 (.br 9 .stop .stop) .stop) .stop) .stop) (.br 6 (.br 1 (.br 7 (.br 8 (.br 9 .stop .stop) .stop) .stop) .stop) .stop)) .stop)) (.br 5 (.br 0 (.br 1 (.br 6 (.br 7 (.br 8 (.br 9 .stop .stop) .stop) .stop) .stop) (.br 6 (.br 1 (.br 7 (.br 8 (.br 9 .stop .stop) .stop) .stop) .stop) .stop)) (.br 6 (.br 0 (.br 1 (.br 7 (.br 8 (.br 9 .stop .stop) .stop) .stop) .stop) .stop) .stop)) .stop)) .stop)) .stop)) (.br 3 (.br 0 (.br 1 (.br 2 (.br 4 (.br 5 (.br 6 (.br 7 (.br 8 (.br 9 .stop .stop) .stop) .stop) .stop) .stop) .stop) (.br 4 (.br 2 (.br 5 (.br 6 (.br 7 (.br 8 (.br 9 .stop .stop) .stop) .stop) .stop) .stop) .stop) .stop)) (.br 2 (.br 1 (.br 4 (.br 5 (.br 6 (.br 7 (.br 8 (.br 9 .stop .stop) .stop) .stop) .stop) .stop) .stop) (.br 4 (.br 1 (.br 5 (.br 6 (.br 7 (.br 8 (.br 9 .stop .stop) .stop) .stop) .stop) .stop) (.br 5 (.br 1 (.br 6 (.br 7 (.br 8 (.br 9 .stop .stop) .stop) .stop) .stop) (.br 6 (.br 1 (.br 7 (.br 8 (.br 9 .stop .stop) .stop) .stop) .stop) .stop)) .stop)) .stop)) (.br 4 (.br 1 (.br 2 (.br 5 (.br 6 (.br 7 (.br 8 (.br 9 .stop .stop) .stop) .stop) .stop) .stop) .stop) (.br 2 (.br 1 (.br 5 (.br 6 (.br 7 (.br 8 (.br 9 .stop .stop) .stop) .stop) .stop) .stop) (.br 5 (.br 1 (.br 6 (.br 7 (.br 8 (.br 9 .stop .stop) .stop) .stop) .stop) (.br 6 (.br 1 (.br 7 (.br 8 (.br 9 .stop .stop) .stop) .stop) .stop) .stop)) .stop)) .stop)) .stop))) (.br 2 (.br 0 (.br 1 (.br 4 (.br 5 (.br 6 (.br 7 (.br 8 (.br 9 .stop .stop) .stop) .stop) .stop) .stop) .stop) (.br 4 (.br 1 (.br 5 (.br 6 (.br 7 (.br 8 (.br 9 .stop .stop) .stop) .stop) .stop) .stop) (.br 5 (.br 1 (.br 6 (.br 7 (.br 8 (.br 9 .stop .stop) .stop) .stop) .stop) (.br 6 (.br 1 (.br 7 (.br 8 (.br 9 .stop .stop) .stop) .stop) .stop) .stop)) .stop)) .stop)) (.br 4 (.br 0 (.br 1 (.br 5 (.br 6 (.br 7 (.br 8 (.br 9 .stop .stop) .stop) .stop) .stop) .stop) (.br 5 (.br 1 (.br 6 (.br 7 (.br 8 (.br 9 .stop .stop) .stop) .stop) .stop) (.br 6 (.br 1 (.br 7 (.br 8 (.br 9 .stop .stop) .stop) .stop) .stop) .stop)) .stop)) (.br 5 (.br 0 (.br 1 (.br 6 (.br 7 (.br 8 (.br 9 .stop .stop) .stop) .stop) .stop) (.br 6 (.br 1 (.br 7 (.br 8 (.br 9 .stop .stop) .stop) .stop) .stop) .stop)) (.br 6 (.br 0 (.br 1 (.br 7 (.br 8 (.br 9 .stop .stop) .stop) .stop) .stop) .stop) .stop)) .stop)) .stop)) (.br 4 (.br 0 (.br 1 (.br 2 (.br 5 (.br 6 (.br 7 (.br 8 (.br 9 .stop .stop) .stop) .stop) .stop) .stop) .stop) (.br 2 (.br 1 (.br 5 (.br 6 (.br 7 (.br 8 (.br 9 .stop .stop) .stop) .stop) .stop) .stop) (.br 5 (.br 1 (.br 6 (.br 7 (.br 8 (.br 9 .stop .stop) .stop) .stop) .stop) (.br 6 (.br 1 (.br 7 (.br 8 (.br 9 .stop .stop) .stop) .stop) .stop) .stop)) .stop)) .stop)) (.br 2 (.br 0 (.br 1 (.br 5 (.br 6 (.br 7 (.br 8 (.br 9 .stop .stop) .stop) .stop) .stop) .stop) (.br 5 (.br 1 (.br 6 (.br 7 (.br 8 (.br 9 .stop .stop) .stop) .stop) .stop) (.br 6 (.br 1 (.br 7 (.br 8 (.br 9 .stop .stop) .stop) .stop) .stop) .stop)) .stop)) (.br 5 (.br 0 (.br 1 (.br 6 (.br 7 (.br 8 (.br 9 .stop .stop) .stop) .stop) .stop) (.br 6 (.br 1 (.br 7 (.br 8 (.br 9 .stop .stop) .stop) .stop) .stop) .stop)) (.br 6 (.br 0 (.br 1 (.br 7 (.br 8 (.br 9 .stop .stop) .stop) .stop) .stop) .stop) .stop)) .stop)) .stop)) .stop))) .stop)))
theorem RC {D : List VObj → List Nat → Prop} {A B C : VObj} {parse : ByteArray → Option Rf} {s : ByteArray} {K : Cont} (hsz : s.size ≤ 1000000000) (hA : ∀ i j, VObj.lt i j A = true) (hB : ∀ i j, VObj.lt i j B = true) (hC : ∀ i j, VObj.lt i j C = true) (hD : commitP parse (str s) = none → ∀ h' a', Keep 3 [A, B, C, rdr s (str s)] h' → D h' a')
    (hP : ∀ id ps fs m no l, headP (str s) = some (id, ps, fs, m, no, l) → 0 < no → ∀ t : ByteArray, t.size ≤ s.size → VPure env 40 [.str t] (parseV (parse t)))
    (hK : ∀ c rest z, commitP parse (str s) = some (c, rest) →
      K (.agg [.int .i64 c.id, .slice (.arr 0) 3 (c.parents.map encI), .slice (.arr 1) 34 (c.files.map Fl.enc), .str c.msg, .slice (.arr 2) 60 (c.ops.map Rf.enc)]) ([A, B, C, rdr s rest] ++ z) [c.parents.length, c.files.length, c.ops.length]) :
    VCalls (envD D) 14 [.ptr 3 0] [A, B, C, rdr s (str s)] [] K := by
  refine vcalls_snd (fn := Tryz.f14) Tryz.func14 rfl (by rw [Tryz.ntmps14]; simp) ?_
  simp only [Tryz.f14]
  refine vc_snd _ _ _ ?_
  have hs0 : Suf s (str s) := ⟨[], rfl⟩
  have hE : commitP parse (str s) = none → ∀ h'' : List VObj, h''[0]? = some A → h''[1]? = some B → h''[2]? = some C → ∀ h' a', Keep 3 h'' h' → D h' a' := fun hc h'' e0 e1 e2 h' a' hk => hD hc h' a' fun j hj hlt => by
    have h2 : 2 < h''.length := (List.getElem?_eq_some_iff.1 e2).1
    rcases j with _ | _ | _ | _ | j
    · rw [hk 0 (by omega) (by omega), e0]; rfl
    · rw [hk 1 (by omega) (by omega), e1]; rfl
    · rw [hk 2 (by omega) (by omega), e2]; rfl
    · exact absurd rfl hj
    · simp only [List.length_cons, List.length_nil] at hlt; omega
  simp -implicitDefEqProofs only [go_sem]
  refine RW hsz rfl hs0 (fun hn => hE (by simp only [commitP_eq, hn, Option.bind_some, Option.bind_none]) _ rfl rfl rfl) fun l1 h1 => ?_
  simp -implicitDefEqProofs only [go_sem]
  refine RN hsz rfl (hs0.word h1) (fun hn => hE (by simp only [commitP_eq, h1, hn, Option.bind_some, Option.bind_none]) _ rfl rfl rfl) fun n1 l2 h2 => ?_
  simp -implicitDefEqProofs only [go_sem]
  refine RW hsz rfl ((hs0.word h1).num h2) (fun hn => hE (by simp only [commitP_eq, h1, h2, hn, Option.bind_some, Option.bind_none]) _ rfl rfl rfl) fun l3 h3 => ?_
  have hs3 := ((hs0.word h1).num h2).word h3
  simp -implicitDefEqProofs only [go_sem]
  refine RN hsz rfl hs3 (fun hn => hE (by simp only [commitP_eq, h1, h2, h3, hn, Option.bind_some, Option.bind_none]) _ rfl rfl rfl) fun np l4 h4 => ?_
  have hs4 := hs3.num h4
  have hnp := (numP_some h4).2
  have N4 : repP parentP np.toNat l4 = none → commitP parse (str s) = none := fun hn => by simp only [commitP_eq, h1, h2, h3, h4, hn, Option.bind_some, Option.bind_none]
  simp -implicitDefEqProofs only [go_sem]
  refine snd_for (α := Int × List Int × List UInt8) (fun x => ⟨[(4, .int .i64 x.1), (3, .ptr 5 0), (2, .ptr 4 0), (0, .ptr 3 0)],
      [A, B, C, rdr s x.2.2, .cells [.int .i64 0, .slice .nil 0 [], .slice .nil 0 [], .str ⟨#[]⟩, .slice .nil 0 []], .cells [.int .i64 n1, .slice (.arr 0) 3 (x.2.1.map encI), .slice .nil 0 [], .str ⟨#[]⟩, .slice .nil 0 []]], [x.2.1.length]⟩)
    (fun x => 0 ≤ x.1 ∧ x.1 ≤ 9223372036854775807 ∧ Suf s x.2.2 ∧ x.2.1.length + x.2.2.length ≤ s.size ∧ repP parentP np.toNat l4 = (repP parentP x.1.toNat x.2.2).map fun y => (x.2.1 ++ y.1, y.2)) (fun x => x.1.toNat) (np, [], l4) ?_ ⟨hnp.1, hnp.2, hs4, by simpa using hs4.le, by simp⟩ ?_
  · simp -implicitDefEqProofs only [go_sem]
  · rintro ⟨n, ps, l⟩ ⟨hn0, hn1, hsl, hle, hrep⟩
    simp only at hn0 hn1 hsl hle hrep
    simp -implicitDefEqProofs only [go_sem]
    refine ⟨fun c => ?_, fun c => ?_⟩
    · refine RW hsz rfl hsl (fun hn => hE (N4 (by rw [hrep, rep_none (by omega) (by simp only [parentP, hn, Option.bind_eq_bind, Option.bind_some, Option.bind_none])]; rfl)) _ rfl rfl rfl) fun l5 h5 => ?_
      have hs5 := hsl.word h5
      simp -implicitDefEqProofs only [go_sem]
      have f6 : numP l5 = none → commitP parse (str s) = none := fun hn => N4 (by rw [hrep, rep_none (by omega) (by simp only [parentP, h5, hn, Option.bind_eq_bind, Option.bind_some, Option.bind_none])]; rfl)
      refine snd_tree (cs := [3]) tr9 mixed (by kernel_rfl) ?_
      simp -implicitDefEqProofs only [go_sem, tr9]
      have hb8 : (ps.length + 1) * 8 ≤ 140737488355328 := by omega
      have fin : ∀ v l6, numP l5 = some (v, l6) → ∃ a : Int × List Int × List UInt8, a.1.toNat < n.toNat ∧ (0 ≤ a.1 ∧ a.1 ≤ 9223372036854775807 ∧ Suf s a.2.2 ∧ a.2.1.length + a.2.2.length ≤ s.size ∧
          repP parentP np.toNat l4 = (repP parentP a.1.toNat a.2.2).map fun y => (a.2.1 ++ y.1, y.2)) ∧ IntKind.i64.wrap (n - 1) = a.1 ∧ (tellO 1 (rdr s l6) (rdr s a.2.2) ∧ List.map encI ps ++ [[V.int .i64 v]] = List.map encI a.2.1) ∧ ps.length + 1 = a.2.1.length := by
        intro v l6 h6
        have e1 := congrArg List.length (wordP_some h5)
        have e2 := congrArg List.length (numP_some h6).1
        have e3 : (str ⟨#[32]⟩).length = 1 := rfl
        rw [List.length_append, e3] at e1
        rw [List.length_append] at e2
        refine ⟨(n - 1, ps ++ [v], l6), by simp only; omega, ⟨by simp only; omega, by simp only; omega, hs5.num h6, by simp; omega, ?_⟩, Go.Vg.wrap_small (by omega) (by omega), ⟨tellO_same, by simp [encI]⟩, by simp⟩
        obtain ⟨k, hk⟩ : ∃ k, n.toNat = k + 1 := ⟨n.toNat - 1, by omega⟩
        have hk' : (n - 1).toNat = k := by omega
        simp only [hrep, hk, hk', repP, parentP, h5, h6, Option.bind_eq_bind, Option.bind_some]
        cases repP parentP k l6 <;> simp
      repeat' (first | apply And.intro | exact hb8 | (refine RN hsz rfl hs5 (fun hn => hE (f6 hn) _ rfl rfl rfl) fun v l6 h6 => ?_; simp -implicitDefEqProofs only [go_sem]))
      all_goals exact fin v l6 h6
    · have hz : n = 0 := by omega
      subst hz
      have hps : repP parentP np.toNat l4 = some (ps, l) := by simpa [repP] using hrep
      have hpl : ps.length ≤ 1000000000 := by omega
      clear hrep hle hn0 hn1
      refine RW hsz rfl hsl (fun hn => hE (by simp only [commitP_eq, h1, h2, h3, h4, hps, hn, Option.bind_some, Option.bind_none]) _ rfl rfl rfl) fun l7 h7 => ?_
      have hs7 := hsl.word h7
      simp -implicitDefEqProofs only [go_sem]
      refine RT hsz rfl hs7 (fun hn => hE (by simp only [commitP_eq, h1, h2, h3, h4, hps, h7, hn, Option.bind_some, Option.bind_none]) _ rfl rfl rfl) fun m l8 h8 => ?_
      have hs8 := hs7.text h8
      simp -implicitDefEqProofs only [go_sem]
      refine RW hsz rfl hs8 (fun hn => hE (by simp only [commitP_eq, h1, h2, h3, h4, hps, h7, h8, hn, Option.bind_some, Option.bind_none]) _ rfl rfl rfl) fun l9 h9 => ?_
      have hs9 := hs8.word h9
      simp -implicitDefEqProofs only [go_sem]
      refine RN hsz rfl hs9 (fun hn => hE (by simp only [commitP_eq, h1, h2, h3, h4, hps, h7, h8, h9, hn, Option.bind_some, Option.bind_none]) _ rfl rfl rfl) fun nf l10 h10 => ?_
      have hs10 := hs9.num h10
      have hnf := (numP_some h10).2
      simp -implicitDefEqProofs only [go_sem]
      refine RW hsz rfl hs10 (fun hn => hE (by simp only [commitP_eq, h1, h2, h3, h4, hps, h7, h8, h9, h10, hn, Option.bind_some, Option.bind_none]) _ rfl rfl rfl) fun l11 h11 => ?_
      have hs11 := hs10.word h11
      have N11 : repP fileP nf.toNat l11 = none → commitP parse (str s) = none := fun hn => by simp only [commitP_eq, h1, h2, h3, h4, hps, h7, h8, h9, h10, h11, hn, Option.bind_some, Option.bind_none]
      simp -implicitDefEqProofs only [go_sem]
      refine snd_for (α := Int × List Fl × List UInt8) (fun x => ⟨[(5, .int .i64 x.1), (3, .ptr 5 0), (2, .ptr 4 0), (0, .ptr 3 0)],
          [A, B, C, rdr s x.2.2, .cells [.int .i64 0, .slice .nil 0 [], .slice .nil 0 [], .str ⟨#[]⟩, .slice .nil 0 []],
            .cells [.int .i64 n1, .slice (.arr 0) 3 (ps.map encI), .slice (.arr 1) 34 (x.2.1.map Fl.enc), .str (toB m), .slice .nil 0 []]], [ps.length, x.2.1.length]⟩)
        (fun x => 0 ≤ x.1 ∧ x.1 ≤ 9223372036854775807 ∧ Suf s x.2.2 ∧ x.2.1.length + x.2.2.length ≤ s.size ∧ repP fileP nf.toNat l11 = (repP fileP x.1.toNat x.2.2).map fun y => (x.2.1 ++ y.1, y.2)) (fun x => x.1.toNat) (nf, [], l11) ?_ ⟨hnf.1, hnf.2, hs11, by simpa using hs11.le, by simp⟩ ?_
      · simp -implicitDefEqProofs only [go_sem]
      · rintro ⟨n, fs, l⟩ ⟨hn0, hn1, hsl, hle, hrep⟩
        simp only at hn0 hn1 hsl hle hrep
        simp -implicitDefEqProofs only [go_sem]
        refine ⟨fun c => ?_, fun c => ?_⟩
        · refine RT hsz rfl hsl (fun hn => hE (N11 (by rw [hrep, rep_none (by omega) (by simp only [fileP, hn, Option.bind_eq_bind, Option.bind_some, Option.bind_none])]; rfl)) _ rfl rfl rfl) fun pa l12 h12 => ?_
          have hs12 := hsl.text h12
          simp -implicitDefEqProofs only [go_sem]
          refine RW hsz rfl hs12 (fun hn => hE (N11 (by rw [hrep, rep_none (by omega) (by simp only [fileP, h12, hn, Option.bind_eq_bind, Option.bind_some, Option.bind_none])]; rfl)) _ rfl rfl rfl) fun l13 h13 => ?_
          have hs13 := hs12.word h13
          simp -implicitDefEqProofs only [go_sem]
          have hb32 : (fs.length + 1) * 32 ≤ 140737488355328 := by omega
          have fin2 : ∀ t l14 l15, textP l13 = some (t, l14) → wordP [10] l14 = some l15 → ∃ a : Int × List Fl × List UInt8, a.1.toNat < n.toNat ∧ (0 ≤ a.1 ∧ a.1 ≤ 9223372036854775807 ∧ Suf s a.2.2 ∧ a.2.1.length + a.2.2.length ≤ s.size ∧
              repP fileP nf.toNat l11 = (repP fileP a.1.toNat a.2.2).map fun y => (a.2.1 ++ y.1, y.2)) ∧ IntKind.i64.wrap (n - 1) = a.1 ∧ (tellO 2 (rdr s l15) (rdr s a.2.2) ∧ List.map Fl.enc fs ++ [[V.str (toB pa), V.str (toB t)]] = List.map Fl.enc a.2.1) ∧ fs.length + 1 = a.2.1.length := by
            intro t l14 l15 h14 h15
            have e1 := congrArg List.length (textP_some h12)
            have e2 := congrArg List.length (wordP_some h13)
            have e3 := congrArg List.length (textP_some h14)
            have e4 := congrArg List.length (wordP_some h15)
            have e5 : (str ⟨#[32]⟩).length = 1 := rfl
            rw [List.length_append] at e1 e2 e3 e4
            refine ⟨(n - 1, fs ++ [⟨toB pa, toB t⟩], l15), by simp only; omega, ⟨by simp only; omega, by simp only; omega, (hs13.text h14).word h15, by simp; omega, ?_⟩, Go.Vg.wrap_small (by omega) (by omega), ⟨tellO_same, by simp [Fl.enc]⟩, by simp⟩
            obtain ⟨k, hk⟩ : ∃ k, n.toNat = k + 1 := ⟨n.toNat - 1, by omega⟩
            have hk' : (n - 1).toNat = k := by omega
            simp only [hrep, hk, hk', repP, fileP, h12, h13, h14, h15, Option.bind_eq_bind, Option.bind_some]
            cases repP fileP k l15 <;> simp
          have f14 : textP l13 = none → commitP parse (str s) = none := fun hn => N11 (by rw [hrep, rep_none (by omega) (by simp only [fileP, h12, h13, hn, Option.bind_eq_bind, Option.bind_some, Option.bind_none])]; rfl)
          have f15 : ∀ t l14, textP l13 = some (t, l14) → wordP (str ⟨#[10]⟩) l14 = none → commitP parse (str s) = none := fun t l14 h14 hn => N11 (by rw [hrep, rep_none (by omega) (by simp only [fileP, h12, h13, h14, (@id (wordP [10] l14 = none) hn), Option.bind_eq_bind, Option.bind_some, Option.bind_none])]; rfl)
          refine snd_tree (cs := [4]) tr19 mixed (by kernel_rfl) ?_
          simp -implicitDefEqProofs only [go_sem, tr19]
          repeat' (first | apply And.intro | exact hb32 | (refine RT hsz rfl hs13 (fun hn => hE (f14 hn) _ rfl rfl rfl) fun t l14 h14 => ?_; simp -implicitDefEqProofs only [go_sem]))
          all_goals refine RW hsz rfl (hs13.text h14) (fun hn => hE (f15 t l14 h14 hn) _ rfl rfl rfl) fun l15 h15 => ?_
          all_goals simp -implicitDefEqProofs only [go_sem]
          all_goals exact fin2 t l14 l15 h14 h15
        · have hz : n = 0 := by omega
          subst hz
          have hfs : repP fileP nf.toNat l11 = some (fs, l) := by simpa [repP] using hrep
          have hfl : fs.length ≤ 1000000000 := by omega
          clear hrep hle hn0 hn1
          refine RW hsz rfl hsl (fun hn => hE (by simp only [commitP_eq, h1, h2, h3, h4, hps, h7, h8, h9, h10, h11, hfs, hn, Option.bind_some, Option.bind_none]) _ rfl rfl rfl) fun l16 h16 => ?_
          have hs16 := hsl.word h16
          simp -implicitDefEqProofs only [go_sem]
          refine RN hsz rfl hs16 (fun hn => hE (by simp only [commitP_eq, h1, h2, h3, h4, hps, h7, h8, h9, h10, h11, hfs, h16, hn, Option.bind_some, Option.bind_none]) _ rfl rfl rfl) fun no l17 h17 => ?_
          have hs17 := hs16.num h17
          have hno := (numP_some h17).2
          simp -implicitDefEqProofs only [go_sem]
          refine RW hsz rfl hs17 (fun hn => hE (by simp only [commitP_eq, h1, h2, h3, h4, hps, h7, h8, h9, h10, h11, hfs, h16, h17, hn, Option.bind_some, Option.bind_none]) _ rfl rfl rfl) fun l18 h18 => ?_
          have hs18 := hs17.word h18
          have hhead : headP (str s) = some (n1, ps, fs, m, no, l18) := by simp only [headP_eq, h1, h2, h3, h4, hps, h7, h8, h9, h10, h11, hfs, h16, h17, h18, Option.bind_some]
          have N18 : repP (opP parse) no.toNat l18 = none → commitP parse (str s) = none := fun hn => by simp only [commitP_eq, h1, h2, h3, h4, hps, h7, h8, h9, h10, h11, hfs, h16, h17, h18, hn, Option.bind_some, Option.bind_none]
          have hP' := hP _ _ _ _ _ _ hhead
          simp -implicitDefEqProofs only [go_sem]
          refine snd_for (α := Int × List Rf × List UInt8) (fun x => ⟨[(5, .int .i64 x.1), (3, .ptr 5 0), (2, .ptr 4 0), (0, .ptr 3 0)],
              [A, B, C, rdr s x.2.2, .cells [.int .i64 0, .slice .nil 0 [], .slice .nil 0 [], .str ⟨#[]⟩, .slice .nil 0 []],
                .cells [.int .i64 n1, .slice (.arr 0) 3 (ps.map encI), .slice (.arr 1) 34 (fs.map Fl.enc), .str (toB m), .slice (.arr 2) 60 (x.2.1.map Rf.enc)]], [ps.length, fs.length, x.2.1.length]⟩)
            (fun x => 0 ≤ x.1 ∧ x.1 ≤ no ∧ Suf s x.2.2 ∧ x.2.1.length + x.2.2.length ≤ s.size ∧ repP (opP parse) no.toNat l18 = (repP (opP parse) x.1.toNat x.2.2).map fun y => (x.2.1 ++ y.1, y.2)) (fun x => x.1.toNat) (no, [], l18) ?_ ⟨hno.1, by simp, hs18, by simpa using hs18.le, by simp⟩ ?_
          · simp -implicitDefEqProofs only [go_sem]
          · rintro ⟨n, os, l⟩ ⟨hn0, hn1, hsl, hle, hrep⟩
            simp only at hn0 hn1 hsl hle hrep
            simp -implicitDefEqProofs only [go_sem]
            refine ⟨fun c => ?_, fun c => ?_⟩
            · refine RT hsz rfl hsl (fun hn => hE (N18 (by rw [hrep, rep_none (by omega) (by simp only [opP, hn, Option.bind_eq_bind, Option.bind_some, Option.bind_none])]; rfl)) _ rfl rfl rfl) fun tx l19 h19 => ?_
              have hs19 := hsl.text h19
              have htx : (toB tx).size ≤ s.size := by
                have e1 := congrArg List.length (textP_some h19)
                rw [List.length_append, textE, List.length_append, List.length_cons] at e1
                have := hsl.le
                rw [toB_size]
                omega
              simp -implicitDefEqProofs only [go_sem]
              refine (VPure.toD (hP' (by omega) (toB tx) htx)).calls rfl ?_
              cases hpr : parse (toB tx) with
              | none =>
                simp -implicitDefEqProofs only [go_sem, parseV]
                exact hE (N18 (by rw [hrep, rep_none (by omega) (by simp only [opP, h19, hpr, Option.bind_eq_bind, Option.bind_some, Option.bind_none])]; rfl)) _ rfl rfl rfl _ _ Keep.refl
              | some r =>
                simp -implicitDefEqProofs only [go_sem, parseV]
                refine ⟨by omega, RW hsz rfl hs19 (fun hn => hE (N18 (by rw [hrep, rep_none (by omega) (by simp only [opP, h19, hpr, (@id (wordP [10] l19 = none) hn), Option.bind_eq_bind, Option.bind_some, Option.bind_none])]; rfl)) _ rfl rfl rfl) fun l21 h21 => ?_⟩
                simp -implicitDefEqProofs only [go_sem]
                have e1 := congrArg List.length (textP_some h19)
                have e2 := congrArg List.length (wordP_some h21)
                have e3 : (str (⟨#[10]⟩ : ByteArray)).length = 1 := rfl
                rw [List.length_append] at e1 e2
                refine ⟨(n - 1, os ++ [r], l21), by simp only; omega, ⟨by simp only; omega, by simp only; omega, hs19.word h21, by simp; omega, ?_⟩, Go.Vg.wrap_small (by omega) (by omega), ⟨tellO_same, by simp⟩, by simp, .inr (by simp only [hA, hB, hC]; rfl)⟩
                obtain ⟨k, hk⟩ : ∃ k, n.toNat = k + 1 := ⟨n.toNat - 1, by omega⟩
                have hk' : (n - 1).toNat = k := by omega
                simp only [hrep, hk, hk', repP, opP, h19, hpr, (@id (wordP [10] l19 = some l21) h21), Option.bind_eq_bind, Option.bind_some]
                cases repP (opP parse) k l21 <;> simp
            · have hz : n = 0 := by omega
              subst hz
              have hos : repP (opP parse) no.toNat l18 = some (os, l) := by simpa [repP] using hrep
              refine RW hsz rfl hsl (fun hn => hE (by simp only [commitP_eq, h1, h2, h3, h4, hps, h7, h8, h9, h10, h11, hfs, h16, h17, h18, hos, hn, Option.bind_some, Option.bind_none]) _ rfl rfl rfl) fun l20 h20 => ?_
              have hc := hK ⟨n1, ps, fs, toB m, os⟩ l20
              simp only [commitP_eq, h1, h2, h3, h4, hps, h7, h8, h9, h10, h11, hfs, h16, h17, h18, hos, h20, Option.bind_some, true_imp_iff, forall_const] at hc
              simp -implicitDefEqProofs only [go_sem]
              exact hc [_, _]
end Go.Proofs.YtellnbgljmocgaaGreatDoor
