/- Refactorings and commits: their values, and what is written and checked of them, in plain words. -/
import Derived.Test.YtellnbgljmocgaaGreatDoorTcS
import Derived.Lib.ItoaNum
import Derived.Lib.Join
set_option linter.unusedVariables false
set_option linter.unusedSimpArgs false
namespace Go.Vg
open Go

structure Rf where
  kind : Int
  path : ByteArray
  cls : ByteArray
  fn : ByteArray
  name : ByteArray
  new : ByteArray
  node : Int
  pos : Int
  order : List Int
  types : List ByteArray
  texts : List ByteArray
  deriving DecidableEq
def encI (n : Int) : List V := [.int .i64 n]
def Rf.enc (r : Rf) : List V := [.int .i64 r.kind, .str r.path, .str r.cls, .str r.fn, .str r.name, .str r.new, .int .i64 r.node, .int .i64 r.pos,
  sl 3 (r.order.map encI), sl 9 (r.types.map encS), sl 9 (r.texts.map encS)]
structure Fl where
  path : ByteArray
  text : ByteArray
  deriving DecidableEq
def Fl.enc (f : Fl) : List V := [.str f.path, .str f.text]
structure Cm where
  id : Int
  parents : List Int
  files : List Fl
  msg : ByteArray
  ops : List Rf
  deriving DecidableEq
def Cm.enc (c : Cm) : List V := [.int .i64 c.id, sl 3 (c.parents.map encI), sl 34 (c.files.map Fl.enc), .str c.msg, sl 60 (c.ops.map Rf.enc)]

@[go_sem] theorem rf_mk {a b c d e f g h i j k} : Rf.enc ⟨a, b, c, d, e, f, g, h, i, j, k⟩ = [.int .i64 a, .str b, .str c, .str d, .str e, .str f, .int .i64 g, .int .i64 h, sl 3 (i.map encI), sl 9 (j.map encS), sl 9 (k.map encS)] := rfl
@[go_sem] theorem rf_len (r : Rf) : r.enc.length = 11 := rfl
@[go_sem] theorem rf_take (r : Rf) : List.take 11 r.enc = r.enc := rfl
@[go_sem] theorem rf_share (r : Rf) : List.map share1 r.enc = r.enc := by cases r; simp -implicitDefEqProofs only [go_sem]
@[go_sem] theorem rf_cell (r : Rf) : r.enc.all V.cell = true := rfl
@[go_sem] theorem encI_pure : ∀ l : List Int, pureLL (l.map encI) = true
  | [] => rfl
  | n :: r => by show (pureL _ && pureLL (r.map encI)) = true; rw [encI_pure r]; rfl
@[go_sem] theorem rf_pure (r : Rf) : pureL r.enc = true := by cases r; simp -implicitDefEqProofs only [go_sem]
@[go_sem] theorem rfs_pure : ∀ l : List Rf, pureLL (l.map Rf.enc) = true
  | [] => rfl
  | n :: r => by simp only [List.map_cons, pureLL, rf_pure n, rfs_pure r, Bool.and_self]
@[go_sem] theorem fl_mk {a b} : Fl.enc ⟨a, b⟩ = [.str a, .str b] := rfl
@[go_sem] theorem fl_len (r : Fl) : r.enc.length = 2 := rfl
@[go_sem] theorem fl_take (r : Fl) : List.take 2 r.enc = r.enc := rfl
@[go_sem] theorem fl_share (r : Fl) : List.map share1 r.enc = r.enc := rfl
@[go_sem] theorem fl_cell (r : Fl) : r.enc.all V.cell = true := rfl
@[go_sem] theorem fl_pure (r : Fl) : pureL r.enc = true := rfl
@[go_sem] theorem fls_pure : ∀ l : List Fl, pureLL (l.map Fl.enc) = true
  | [] => rfl
  | n :: r => by simp only [List.map_cons, pureLL, fl_pure n, fls_pure r, Bool.and_self]
@[go_sem] theorem cm_mk {a b c d e} : Cm.enc ⟨a, b, c, d, e⟩ = [.int .i64 a, sl 3 (b.map encI), sl 34 (c.map Fl.enc), .str d, sl 60 (e.map Rf.enc)] := rfl
@[go_sem] theorem cm_len (r : Cm) : r.enc.length = 5 := rfl
@[go_sem] theorem cm_take (r : Cm) : List.take 5 r.enc = r.enc := rfl
@[go_sem] theorem cm_share (r : Cm) : List.map share1 r.enc = r.enc := by cases r; simp -implicitDefEqProofs only [go_sem]
@[go_sem] theorem cm_cell (r : Cm) : r.enc.all V.cell = true := rfl
@[go_sem] theorem cm_pure (r : Cm) : pureL r.enc = true := by cases r; simp -implicitDefEqProofs only [go_sem]

/-! ### Texts -/
def wordB (k : Int) : ByteArray := if k = 1 then ⟨#[114, 101, 110, 97, 109, 101]⟩ else if k = 2 then ⟨#[114, 101, 108, 111, 99, 97, 116, 101]⟩ else if k = 3 then ⟨#[105, 110, 108, 105, 110, 101]⟩ else if k = 4 then ⟨#[101, 120, 116, 114, 97, 99, 116]⟩ else if k = 5 then ⟨#[115, 105, 103, 110, 97, 116, 117, 114, 101]⟩ else ⟨#[]⟩
def fieldB (key v : ByteArray) : ByteArray := if v = ⟨#[]⟩ then ⟨#[]⟩ else ⟨#[32]⟩ ++ key ++ ⟨#[61]⟩ ++ v
def itoaB (n : Int) : ByteArray := ⟨(Lib.itoa n).toArray⟩
def numB (n : Int) : ByteArray := if n = 0 then ⟨#[]⟩ else itoaB n
def joinB (l : List ByteArray) : ByteArray := ⟨(Lib.join (l.map fun x => x.data.toList) [44]).toArray⟩
def swapB (a b : UInt8) (s : ByteArray) : ByteArray := ⟨(s.data.toList.map fun c => if c = a then b else c).toArray⟩

theorem ba_ext {a b : ByteArray} (h : a.data.toList = b.data.toList) : a = b := by
  cases a; cases b; congr 1; exact Array.ext' h
theorem ba_append {a b : ByteArray} : (a ++ b).data.toList = a.data.toList ++ b.data.toList := by simp
theorem joinB_nil : joinB [] = ⟨#[]⟩ := rfl
theorem joinB_snoc (l : List ByteArray) (x : ByteArray) : joinB (l ++ [x]) = if l = [] then x else joinB l ++ ⟨#[44]⟩ ++ x := by
  apply ba_ext
  rcases l with _ | ⟨y, r⟩
  · simp [joinB, Lib.join_one]
  · rw [if_neg (by simp)]
    simp only [ba_append, joinB, List.cons_append, List.map_cons, List.map_append, Lib.join_cons]
    simp [Lib.joinTail]

/-! ### Paths -/
def partB (l : List UInt8) : Bool := !decide (l = []) && !decide (l = [46]) && !decide (l = [46, 46]) && l.all fun c => nameB c.toNat || decide (c = 45) || decide (c = 46)
def pathParts : List UInt8 → List UInt8 → Bool
  | cur, [] => partB cur
  | cur, c :: r => if c = 47 then partB cur && pathParts [] r else pathParts (cur ++ [c]) r
def pathB (s : ByteArray) : Bool := !decide ((s.size : Int) < 1) && !decide (64 < (s.size : Int)) && pathParts [] s.data.toList

/-! ### Refactorings -/
def fineB (s : ByteArray) : Bool := (s.data.toList.all fun c => decide (32 ≤ (c.toNat : Int)) && decide ((c.toNat : Int) ≤ 125) && !decide (c = 44)) && !decide (s = ⟨#[]⟩)
def maybeB (s : ByteArray) : Bool := decide (s = ⟨#[]⟩) || validName s
def rfErr (r : Rf) : Int := if wordB r.kind = ⟨#[]⟩ then 7
  else if (!decide (r.path = ⟨#[]⟩) && !pathB r.path) || !maybeB r.cls || !maybeB r.fn || !maybeB r.name || !maybeB r.new || !r.types.all validName then 4
  else if !r.texts.all fineB then 1
  else if 16 < max (max r.order.length r.types.length) r.texts.length then 3 else 0
def rfText (r : Rf) : ByteArray := wordB r.kind ++ fieldB ⟨#[112, 97, 116, 104]⟩ r.path ++ fieldB ⟨#[99, 108, 97, 115, 115]⟩ r.cls ++ fieldB ⟨#[102, 117, 110, 99]⟩ r.fn ++ fieldB ⟨#[110, 97, 109, 101]⟩ r.name ++ fieldB ⟨#[116, 111]⟩ r.new
  ++ fieldB ⟨#[110, 111, 100, 101]⟩ (numB r.node) ++ fieldB ⟨#[112, 111, 115]⟩ (numB r.pos) ++ fieldB ⟨#[111, 114, 100, 101, 114]⟩ (joinB (r.order.map itoaB)) ++ fieldB ⟨#[116, 121, 112, 101, 115]⟩ (joinB r.types) ++ fieldB ⟨#[116, 101, 120, 116, 115]⟩ (joinB (r.texts.map (swapB 32 126)))
def printV (r : Rf) : V := .tuple [.str (if rfErr r = 0 then rfText r else ⟨#[]⟩), .int .i64 (rfErr r)]
end Go.Vg
