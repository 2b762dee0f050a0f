/- The program's values: trees, units, declarations. -/
import Derived.Test.YtellnbgljmocgaaGreatDoorVgT
import Derived.Test.YtellnbgljmocgaaGreatDoorVgQ
import Derived.Test.YtellnbgljmocgaaGreatDoorVgR
import Derived.KernelRfl
import Derived.Lib.LaidTab
import Derived.Lib.ItoaNum
set_option linter.unusedVariables false
namespace Go.Vg
open Go

inductive Nd where
  | mk (kind : Int) (text : ByteArray) (gaps : List ByteArray) (kids : List Nd)
def Nd.kind : Nd → Int | .mk k _ _ _ => k
def Nd.text : Nd → ByteArray | .mk _ t _ _ => t
def Nd.gaps : Nd → List ByteArray | .mk _ _ g _ => g
def Nd.kids : Nd → List Nd | .mk _ _ _ ks => ks

def encS (s : ByteArray) : List V := [.str s]
mutual
def Nd.enc : Nd → List V
  | .mk k t g ks => [.int .i64 k, .str t, sl 9 (g.map encS), sl 142 (Nd.encs ks)]
def Nd.encs : List Nd → List (List V)
  | [] => []
  | n :: r => n.enc :: Nd.encs r
end
@[go_sem] theorem encs_map : ∀ l, Nd.encs l = l.map Nd.enc
  | [] => rfl
  | n :: r => by rw [Nd.encs, encs_map r]; rfl
@[go_sem] theorem enc_mk {k t g ks} : (Nd.mk k t g ks).enc = [.int .i64 k, .str t, sl 9 (g.map encS), sl 142 (ks.map Nd.enc)] := by
  rw [Nd.enc, encs_map]
@[go_sem] theorem enc_len (n : Nd) : n.enc.length = 4 := by cases n; rfl
@[go_sem] theorem enc_take (n : Nd) : List.take 4 n.enc = n.enc := by cases n; rfl
@[go_sem] theorem enc_share (n : Nd) : List.map share1 n.enc = n.enc := by cases n; simp -implicitDefEqProofs only [go_sem]
@[go_sem] theorem enc_cell (n : Nd) : n.enc.all V.cell = true := by cases n; rfl
@[go_sem] theorem encS_pure : ∀ l : List ByteArray, pureLL (l.map encS) = true
  | [] => rfl
  | n :: r => by show (pureL _ && pureLL (r.map encS)) = true; rw [encS_pure r]; rfl
mutual
theorem enc_pure : ∀ n : Nd, pureL n.enc = true
  | .mk _ _ _ ks => by simp only [Nd.enc, go_sem]; exact ncs_pure ks
theorem ncs_pure : ∀ l : List Nd, pureLL (l.map Nd.enc) = true
  | [] => rfl
  | n :: r => by simp only [List.map_cons, pureLL, enc_pure n, ncs_pure r, Bool.and_self]
end
attribute [go_sem] enc_pure ncs_pure
theorem Nd.all {P : Nd → Prop} (h : ∀ k t g (ks : List Nd), (∀ x ∈ ks, P x) → P (.mk k t g ks)) : ∀ n, P n :=
  Nd.rec (motive_1 := P) (motive_2 := fun l => ∀ x ∈ l, P x) (fun k t g ks ih => h k t g ks ih) (by simp) fun n r hn hr x hx => by
    rcases List.mem_cons.1 hx with e | e
    · exact e ▸ hn
    · exact hr x e
theorem mem_mid {α : Type} {pre post : List α} {x : α} : x ∈ pre ++ x :: post := by simp
theorem byteAt_mid {s : ByteArray} {pre post : List UInt8} {x : UInt8} (h : s.data.toList = pre ++ x :: post) : byteAt s (pre.length : Int) = x.toNat := by
  have h1 : s.data.toList[pre.length]? = some x := by rw [h]; simp
  have h2 : s.data[pre.length]? = some x := by simpa using h1
  unfold byteAt
  have h3 : s[(Int.toNat (pre.length : Int))]? = some x := by
    have : Int.toNat (pre.length : Int) = pre.length := by simp
    rw [this]
    obtain ⟨hl, hx⟩ := Array.getElem?_eq_some_iff.1 h2
    have hl' : pre.length < s.size := hl
    rw [getElem?_pos s pre.length hl']
    exact congrArg some hx
  rw [h3]
theorem size_list {s : ByteArray} : s.size = s.data.toList.length := by simp
theorem size_mid {s : ByteArray} {l : List UInt8} (h : s.data.toList = l) : s.size = l.length := by rw [size_list, h]
end Go.Vg

namespace Go.Proofs.YtellnbgljmocgaaGreatDoor
open Go Go.Vg Go.Proofs
/-- What the package-level variables of the library hold. -/
def iniW (w : World) : Prop := Lib.TabIs Tryz.prog w "internal/strconv.uint64pow10" .u64 Lib.pow10Tab ∧ (∃ m, w.var? Tryz.prog "internal/bytealg.MaxLen" = some #[.int .i64 m]) ∧
  (∃ t p, w.var? Tryz.prog "strconv.ErrSyntax" = some #[.iface t p]) ∧ ∃ t p, w.var? Tryz.prog "strconv.ErrRange" = some #[.iface t p]
theorem iniW_keep (w w' : World) (h : iniW w) (hb : Go.RowKit.Below w.heap.size w w') : iniW w' :=
  ⟨var_keep h.1 hb, h.2.1.imp fun _ h => var_keep h hb, h.2.2.1.imp fun _ h => h.imp fun _ h => var_keep h hb, h.2.2.2.imp fun _ h => h.imp fun _ h => var_keep h hb⟩
/-- The program, which may panic in the states that D lets. -/
noncomputable def envD (D : List VObj → List Nat → Prop) : Env := { P := Tryz.prog, gl := fun _ => none, tag := fun t => decide (t = 64), byteT := 5, ini := iniW, iniM := iniW_keep, die := D }
noncomputable def env : Env := envD fun _ _ => False
@[go_sem] theorem envD_P {D : List VObj → List Nat → Prop} : (envD D).P = Tryz.prog := rfl
@[go_sem] theorem env_tag {t : TypeId} : env.tag t = decide (t = 64) := rfl
@[go_sem] theorem envD_tag {D : List VObj → List Nat → Prop} {t : TypeId} : (envD D).tag t = decide (t = 64) := rfl
@[go_sem] theorem envD_die {D : List VObj → List Nat → Prop} : (envD D).die = D := rfl
theorem VPure.toD {D : List VObj → List Nat → Prop} {f : FuncId} {args : List V} {r : V} (h : VPure env f args r) : VPure (envD D) f args r := h
@[go_sem] theorem env_P : env.P = Tryz.prog := rfl
theorem mixed : env.P.follows .mixedOrders = true := by
  rw [env_P]; kernel_rfl
end Go.Proofs.YtellnbgljmocgaaGreatDoor
