/- The program's values: trees, units, declarations. -/
import Derived.Test.YtamednbojpnalaaGreatDoorVgT
import Derived.Test.YtamednbojpnalaaGreatDoorVgQ
import Derived.Test.YtamednbojpnalaaGreatDoorVgR
import Derived.KernelRfl
import Derived.Lib.LaidTab
import Derived.Lib.ItoaNum
set_option linter.unusedVariables false
namespace Go.Vg
open Go

inductive Nd where
  | mk (kind : Int) (text : ByteArray) (gaps : List ByteArray) (kids : List Nd)
def Nd.kind : Nd → Int | .mk k _ _ _ => k
def Nd.text : Nd → ByteArray | .mk _ t _ _ => t
def Nd.gaps : Nd → List ByteArray | .mk _ _ g _ => g
def Nd.kids : Nd → List Nd | .mk _ _ _ ks => ks

def encS (s : ByteArray) : List V := [.str s]
mutual
def Nd.enc : Nd → List V
  | .mk k t g ks => [.int .i64 k, .str t, sl 9 (g.map encS), sl 32 (Nd.encs ks)]
def Nd.encs : List Nd → List (List V)
  | [] => []
  | n :: r => n.enc :: Nd.encs r
end
@[go_sem] theorem encs_map : ∀ l, Nd.encs l = l.map Nd.enc
  | [] => rfl
  | n :: r => by rw [Nd.encs, encs_map r]; rfl
@[go_sem] theorem enc_mk {k t g ks} : (Nd.mk k t g ks).enc = [.int .i64 k, .str t, sl 9 (g.map encS), sl 32 (ks.map Nd.enc)] := by
  rw [Nd.enc, encs_map]
@[go_sem] theorem enc_len (n : Nd) : n.enc.length = 4 := by cases n; rfl
@[go_sem] theorem enc_take (n : Nd) : List.take 4 n.enc = n.enc := by cases n; rfl
@[go_sem] theorem enc_share (n : Nd) : List.map share1 n.enc = n.enc := by cases n; simp -implicitDefEqProofs only [go_sem]
@[go_sem] theorem enc_cell (n : Nd) : n.enc.all V.cell = true := by cases n; rfl
@[go_sem] theorem encS_pure : ∀ l : List ByteArray, pureLL (l.map encS) = true
  | [] => rfl
  | n :: r => by show (pureL _ && pureLL (r.map encS)) = true; rw [encS_pure r]; rfl
mutual
theorem enc_pure : ∀ n : Nd, pureL n.enc = true
  | .mk _ _ _ ks => by simp only [Nd.enc, go_sem]; exact ncs_pure ks
theorem ncs_pure : ∀ l : List Nd, pureLL (l.map Nd.enc) = true
  | [] => rfl
  | n :: r => by simp only [List.map_cons, pureLL, enc_pure n, ncs_pure r, Bool.and_self]
end
attribute [go_sem] enc_pure ncs_pure
theorem Nd.all {P : Nd → Prop} (h : ∀ k t g (ks : List Nd), (∀ x ∈ ks, P x) → P (.mk k t g ks)) : ∀ n, P n :=
  Nd.rec (motive_1 := P) (motive_2 := fun l => ∀ x ∈ l, P x) (fun k t g ks ih => h k t g ks ih) (by simp) fun n r hn hr x hx => by
    rcases List.mem_cons.1 hx with e | e
    · exact e ▸ hn
    · exact hr x e
theorem mem_mid {α : Type} {pre post : List α} {x : α} : x ∈ pre ++ x :: post := by simp
theorem byteAt_mid {s : ByteArray} {pre post : List UInt8} {x : UInt8} (h : s.data.toList = pre ++ x :: post) : byteAt s (pre.length : Int) = x.toNat := by
  have h1 : s.data.toList[pre.length]? = some x := by rw [h]; simp
  have h2 : s.data[pre.length]? = some x := by simpa using h1
  unfold byteAt
  have h3 : s[(Int.toNat (pre.length : Int))]? = some x := by
    have : Int.toNat (pre.length : Int) = pre.length := by simp
    rw [this]
    obtain ⟨hl, hx⟩ := Array.getElem?_eq_some_iff.1 h2
    have hl' : pre.length < s.size := hl
    rw [getElem?_pos s pre.length hl']
    exact congrArg some hx
  rw [h3]
theorem size_list {s : ByteArray} : s.size = s.data.toList.length := by simp
/-- A row of the package variable grammar.shapes. -/
structure Shp where
  first : List (Int × Int)
  rk : Int
  rg : Int
  text : Int
  words : List ByteArray
  own : Int
def encPt (p : Int × Int) : List V := [.int .i64 p.1, .int .i64 p.2]
def Shp.enc (s : Shp) : List V := [sl 209 (s.first.map encPt), .int .i64 s.rk, .int .i64 s.rg, .int .i64 s.text, sl 9 (s.words.map encS), .int .i64 s.own]
def shapesL : List Shp := [
  ⟨[], 0, 0, 0, [], 0⟩,
  ⟨[], 0, 1, 0, [], 1⟩,
  ⟨[(3, 0), (5, 0), (6, 0)], 0, 0, 1, [], 2⟩,
  ⟨[], 4, 0, 0, [], 2⟩,
  ⟨[(5, 0)], 0, 0, 1, [], 1⟩,
  ⟨[], 0, 0, 1, [], 1⟩,
  ⟨[], 0, 2, 0, [], 2⟩,
  ⟨[(8, 0)], 2, 0, 1, [], 4⟩,
  ⟨[], 0, 0, 2, [], 2⟩,
  ⟨[(0, 3)], 0, 0, 1, [], 4⟩,
  ⟨[(0, 3)], 0, 0, 1, [], 4⟩,
  ⟨[(0, 3)], 0, 0, 1, [], 3⟩,
  ⟨[(0, 3)], 0, 0, 0, [], 2⟩,
  ⟨[(0, 3), (6, 0), (14, 0)], 0, 0, 0, [], 1⟩,
  ⟨[(6, 0)], 0, 0, 0, [], 1⟩,
  ⟨[(0, 3), (6, 0)], 0, 0, 0, [], 1⟩,
  ⟨[(0, 3)], 0, 0, 0, [], 1⟩,
  ⟨[], 0, 0, 3, [], 1⟩,
  ⟨[], 0, 0, 4, [⟨#[116, 114, 117, 101]⟩, ⟨#[102, 97, 108, 115, 101]⟩], 1⟩,
  ⟨[], 0, 0, 1, [], 1⟩,
  ⟨[], 0, 3, 1, [], 3⟩,
  ⟨[(0, 3)], 0, 3, 1, [], 4⟩,
  ⟨[], 0, 0, 1, [], 4⟩,
  ⟨[], 0, 0, 4, [⟨#[115, 101, 108, 102]⟩], 1⟩,
  ⟨[(0, 3), (0, 3)], 0, 0, 4, [⟨#[124]⟩, ⟨#[38]⟩, ⟨#[61, 61]⟩, ⟨#[60]⟩, ⟨#[43]⟩, ⟨#[45]⟩, ⟨#[42]⟩, ⟨#[47]⟩], 1⟩,
  ⟨[(0, 3)], 0, 0, 4, [⟨#[45]⟩, ⟨#[33]⟩], 1⟩,
  ⟨[(0, 3)], 0, 0, 0, [], 2⟩]
def shapesC : List V := (shapesL.map Shp.enc).flatten
def Shp.zero : Shp := ⟨[], 0, 0, 0, [], 0⟩
def shp (k : Int) : Shp := shapesL.getD k.toNat Shp.zero
theorem shapes_drop {k : Int} (h : 0 ≤ k) (h' : k < 27) : List.drop (k.toNat * 6) shapesC = (shp k).enc ++ List.drop (k.toNat * 6 + 6) shapesC := by
  obtain ⟨n, rfl⟩ := Int.eq_ofNat_of_zero_le h
  have hn : n < 27 := by omega
  simp only [Int.ofNat_eq_natCast, Int.toNat_natCast, shp]
  have key : ∀ (l : List Shp) (n : Nat), n < l.length → List.drop (n * 6) (l.map Shp.enc).flatten = (l.getD n Shp.zero).enc ++ List.drop (n * 6 + 6) (l.map Shp.enc).flatten := by
    intro l
    induction l with
    | nil => intro n hn; simp at hn
    | cons x r ih =>
      intro n hn
      have hx : x.enc.length = 6 := rfl
      cases n with
      | zero =>
        simp only [List.map_cons, List.flatten_cons, Nat.zero_mul, List.drop_zero, Nat.zero_add]
        rw [← hx, List.drop_left]
        rfl
      | succ n =>
        have := ih n (by simpa using hn)
        have e1 : ∀ m, List.drop (6 + m) (x.enc ++ (List.map Shp.enc r).flatten) = List.drop m (List.map Shp.enc r).flatten := fun m => by
          rw [← hx, ← List.drop_drop, List.drop_left]
        rw [List.map_cons, List.flatten_cons, show (n + 1) * 6 = 6 + n * 6 by omega, e1, this, show 6 + n * 6 + 6 = 6 + (n * 6 + 6) by omega, e1]
        rfl
  exact key shapesL n hn
theorem size_mid {s : ByteArray} {l : List UInt8} (h : s.data.toList = l) : s.size = l.length := by rw [size_list, h]
end Go.Vg

namespace Go.Proofs.YtamednbojpnalaaGreatDoor
open Go Go.Vg Go.Proofs
/-- What the package-level variables of the library hold. -/
def iniW (w : World) : Prop := Lib.TabIs Tryz.prog w "internal/strconv.uint64pow10" .u64 Lib.pow10Tab ∧ ∃ m, w.var? Tryz.prog "internal/bytealg.MaxLen" = some #[.int .i64 m]
theorem iniW_keep (w w' : World) (h : iniW w) (hb : Go.RowKit.Below w.heap.size w w') : iniW w' :=
  ⟨var_keep h.1 hb, h.2.imp fun _ h => var_keep h hb⟩
/-- The program, which may panic in the states that D lets. -/
noncomputable def envD (D : List VObj → List Nat → Prop) : Env := { P := Tryz.prog, gl := fun g => if g = 0 then some shapesC else none, tag := fun t => decide (t = 225), byteT := 5, ini := iniW, iniM := iniW_keep, die := D }
noncomputable def env : Env := envD fun _ _ => False
@[go_sem] theorem envD_P {D : List VObj → List Nat → Prop} : (envD D).P = Tryz.prog := rfl
@[go_sem] theorem env_tag {t : TypeId} : env.tag t = decide (t = 225) := rfl
@[go_sem] theorem envD_tag {D : List VObj → List Nat → Prop} {t : TypeId} : (envD D).tag t = decide (t = 225) := rfl
@[go_sem] theorem envD_shapes {D : List VObj → List Nat → Prop} : (envD D).gl 0 = some shapesC := rfl
@[go_sem] theorem env_shapes : env.gl 0 = some shapesC := rfl
@[go_sem] theorem envD_vecT {D : List VObj → List Nat → Prop} {t : TypeId} : (envD D).vecT t = false := rfl
@[go_sem] theorem env_vecT {t : TypeId} : env.vecT t = false := rfl
@[go_sem] theorem envD_die {D : List VObj → List Nat → Prop} : (envD D).die = D := rfl
theorem VPure.toD {D : List VObj → List Nat → Prop} {f : FuncId} {args : List V} {r : V} (h : VPure env f args r) : VPure (envD D) f args r := h
@[go_sem] theorem env_P : env.P = Tryz.prog := rfl
/-- The same; appends to slices of the type t are of slices that are written to later. -/
noncomputable def envV (tv : TypeId) : Env := { env with vecT := fun t => decide (t = tv) }
@[go_sem] theorem envV_P {tv : TypeId} : (envV tv).P = Tryz.prog := rfl
@[go_sem] theorem envV_tag {tv t : TypeId} : (envV tv).tag t = decide (t = 225) := rfl
@[go_sem] theorem envV_vecT {tv t : TypeId} : (envV tv).vecT t = decide (t = tv) := rfl
theorem VCalls.toE {E E' : Env} (hP : E.P = E'.P) (hg : E.gl = E'.gl) (hB : E.byteT = E'.byteT) (hI : ∀ w, E.ini w ↔ E'.ini w) (hd : ∀ h a, E.die h a → E'.die h a) {f : FuncId} {args : List V} {h : List VObj} {a : List Nat} {K : Cont} (hc : VCalls E f args h a K) :
    VCalls E' f args h a K := by
  intro G w0 w vals hr ha
  have h2 := (hc G w0 w vals (hr.env (E := E') (E' := E) hP.symm hg.symm hB.symm (hI _).2) (hP ▸ ha)).mono fun e w' hgo => show Goes E' G a w0 K e w' by
    rcases hgo with ⟨val, he, v, heap', arr', G', h1, h2, h3, h4⟩ | ⟨ch, he, h0, heap', arr', G', h1, h2, h3⟩
    · exact .inl ⟨val, he, v, heap', arr', G', h1, h2, h3.env (E := E) (E' := E') hP hg hB (hI _).1, hP ▸ h4⟩
    · exact .inr ⟨ch, he, h0, heap', arr', G', hd _ _ h1, h2, h3.env (E := E) (E' := E') hP hg hB (hI _).1⟩
  exact hP ▸ h2
theorem VCalls.toV {tv : TypeId} {f : FuncId} {args : List V} {h : List VObj} {a : List Nat} {K : Cont} (hc : VCalls env f args h a K) : VCalls (envV tv) f args h a K :=
  VCalls.toE (E := env) (E' := envV tv) rfl rfl rfl (fun _ => Iff.rfl) (fun _ _ h => h) hc
theorem VCalls.ofV {tv : TypeId} {f : FuncId} {args : List V} {h : List VObj} {a : List Nat} {K : Cont} (hc : VCalls (envV tv) f args h a K) : VCalls env f args h a K :=
  VCalls.toE (E := envV tv) (E' := env) rfl rfl rfl (fun _ => Iff.rfl) (fun _ _ h => h) hc
theorem VPure.toV {tv : TypeId} {f : FuncId} {args : List V} {r : V} (h : VPure env f args r) : VPure (envV tv) f args r :=
  ⟨h.1, h.2.1, VCalls.toE (E := env.alive) (E' := (envV tv).alive) rfl rfl rfl (fun _ => Iff.rfl) (fun _ _ h => h) h.2.2⟩
theorem VPure.ofV {tv : TypeId} {f : FuncId} {args : List V} {r : V} (h : VPure (envV tv) f args r) : VPure env f args r :=
  ⟨h.1, h.2.1, VCalls.toE (E := (envV tv).alive) (E' := env.alive) rfl rfl rfl (fun _ => Iff.rfl) (fun _ _ h => h) h.2.2⟩
theorem mixed : env.P.follows .mixedOrders = true := by
  rw [env_P]; kernel_rfl
end Go.Proofs.YtamednbojpnalaaGreatDoor
