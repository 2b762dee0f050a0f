/- Names: what is checked of them, in plain words. (The same definitions as in TmB, where the reference's functions are walked.) -/
import Derived.Test.YtellnbgljmocgaaGreatDoorTmA
set_option linter.unusedVariables false
set_option linter.unusedSimpArgs false
namespace Go.Vg
def digitB (c : Int) : Bool := decide (48 ≤ c) && decide (c ≤ 57)
def letterB (c : Int) : Bool := decide (97 ≤ c) && decide (c ≤ 122) || decide (65 ≤ c) && decide (c ≤ 90) || decide (c = 95)
def keyword (s : ByteArray) : Bool := decide (s = ⟨#[102, 110]⟩) || decide (s = ⟨#[99, 108, 97, 115, 115]⟩) || decide (s = ⟨#[99, 111, 110, 115, 116]⟩) || decide (s = ⟨#[108, 101, 116]⟩) || decide (s = ⟨#[114, 101, 116, 117, 114, 110]⟩) || decide (s = ⟨#[105, 102]⟩) || decide (s = ⟨#[101, 108, 115, 101]⟩) || decide (s = ⟨#[119, 104, 105, 108, 101]⟩)
  || decide (s = ⟨#[110, 101, 119]⟩) || decide (s = ⟨#[115, 101, 108, 102]⟩) || decide (s = ⟨#[116, 114, 117, 101]⟩) || decide (s = ⟨#[102, 97, 108, 115, 101]⟩)
def nameB (c : Int) : Bool := letterB c || digitB c
def validName (s : ByteArray) : Bool := !decide ((s.size : Int) < 1) && !decide (32 < (s.size : Int)) && !digitB (byteAt s 0) && !keyword s && s.data.toList.all fun c => nameB c.toNat
theorem byteAt_zero {s : ByteArray} {x : UInt8} {r : List UInt8} (h : s.data.toList = x :: r) : byteAt s 0 = x.toNat := byteAt_mid (pre := []) h
theorem encS_eq {s : ByteArray} : encS s = [.str s] := rfl
end Go.Vg
