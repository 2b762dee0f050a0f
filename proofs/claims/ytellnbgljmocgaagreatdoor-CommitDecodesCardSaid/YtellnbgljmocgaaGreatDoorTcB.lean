/- What is checked of a commit, and how it is written: in plain words. -/
import Derived.Test.YtellnbgljmocgaaGreatDoorTcQ
set_option linter.unusedVariables false
set_option linter.unusedSimpArgs false
namespace Go.Vg
open Go Go.Lib

theorem bytesLess_tri : ∀ a b : List UInt8, (Op.bytesLess b a || decide (b = a)) = !(Op.bytesLess a b)
  | [], [] => rfl
  | [], b :: y => rfl
  | a :: x, [] => rfl
  | a :: x, b :: y => by
    have ih := bytesLess_tri x y
    simp only [Op.bytesLess]
    rcases Nat.lt_trichotomy a.toNat b.toNat with h | h | h
    · have h1 : a < b := h
      have h2 : ¬ b < a := fun h' => by have : b.toNat < a.toNat := h'; omega
      have h3 : ¬ b = a := fun h' => by subst h'; omega
      have h4 : ¬ a = b := fun h' => h3 h'.symm
      simp [h1, h2, h3, h4]
    · have h1 : a = b := UInt8.toNat_inj.1 h
      subst h1
      have h2 : ¬ a < a := fun h' => by have : a.toNat < a.toNat := h'; omega
      simp [h2, ← ih]
    · have h1 : b < a := h
      have h2 : ¬ a < b := fun h' => by have : a.toNat < b.toNat := h'; omega
      have h3 : ¬ b = a := fun h' => by subst h'; omega
      have h4 : ¬ a = b := fun h' => h3 h'.symm
      simp [h1, h2, h3, h4]

def risingB : List Fl → Bool
  | a :: b :: r => Op.bytesLess a.path.toList b.path.toList && risingB (b :: r)
  | _ => true
def filesErr (l : List Fl) : Int := if 32 < l.length then 3 else if !l.all (fun f => pathB f.path) then 4 else if !risingB l then 14 else if l.any (fun f => decide (65536 < f.text.size)) then 3 else 0
def parentsB (c : Cm) : Bool := !decide (2 < c.parents.length) && !(match c.parents with | [a, b] => decide (a = b) | _ => false) && !(decide (c.parents = []) && !decide (c.id = 0)) && c.parents.all fun p => decide (0 ≤ p) && decide (p < c.id)
def msgB (s : ByteArray) : Bool := !decide (200 < s.size) && s.data.toList.all fun c => decide (32 ≤ c.toNat) && decide (c.toNat ≤ 126)
def opsErr : List Rf → Int
  | [] => 0
  | r :: l => if rfErr r = 0 then opsErr l else rfErr r
def cmErr (c : Cm) : Int := if c.id < 0 ∨ 256 ≤ c.id then 2 else if !parentsB c then 14 else if filesErr c.files ≠ 0 then filesErr c.files else if !msgB c.msg then 1 else if 64 < c.ops.length then 3 else opsErr c.ops
def cmText (c : Cm) : ByteArray := if cmErr c = 0 then toB (commitE c) else ⟨#[]⟩
def encodeV (c : Cm) : V := .tuple [.str (cmText c), .int .i64 (cmErr c)]
def addD (d c : Int) : Int := IntKind.u64.wrap (IntKind.u64.wrap (intXor .u64 d (IntKind.u64.wrap c)) * 1099511628211)
def sumN (l : List UInt8) (d : Int) : Int := l.foldl (fun d c => addD d c.toNat) d
def digestV (c : Cm) : V := .int .u64 (if cmErr c = 0 then sumN (commitE c) 14695981039346656037 else 0)
def decodeC (parse : ByteArray → Option Rf) (s : ByteArray) : Option (Cm × List UInt8) := match commitP parse (str s) with
  | some (c, r) => if cmErr c = 0 then some (c, r) else none
  | none => none
def noCm : Cm := ⟨0, [], [], ⟨#[]⟩, []⟩
def decodeV (parse : ByteArray → Option Rf) (s : ByteArray) : V := match decodeC parse s with
  | some (c, r) => .tuple [.agg c.enc, .int .i64 (s.size - r.length : Nat), .int .i64 0]
  | none => .tuple [.agg noCm.enc, .int .i64 0, .int .i64 1]

end Go.Vg
