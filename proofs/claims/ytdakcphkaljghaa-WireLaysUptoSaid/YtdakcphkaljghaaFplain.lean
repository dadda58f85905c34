/- Plain definitions and laws for the frames of the wire layer. No program in sight. -/
import Derived.Test.YtdakcphkaljghaaRlaw
import Derived.Test.YtdakcphkaljghaaRback
namespace Go.AB
open Go.RowKit

def sumB (l : List UInt8) : Nat := crcSum 4294967295 l ^^^ 4294967295
theorem xorBegin_lt {c : Nat} (h : c < 4294967296) : c ^^^ 4294967295 < 4294967296 := Nat.xor_lt_two_pow (n := 32) h (by omega)
theorem sumB_lt (l : List UInt8) : sumB l < 4294967296 := xorBegin_lt (crcSum_lt l (by omega))
theorem xorBegin (c : Nat) (h : c < 4294967296) : bits .xor .u32 (c : Int) 4294967295 = ((c ^^^ 4294967295 : Nat) : Int) := by
  rw [show (4294967295 : Int) = ((4294967295 : Nat) : Int) from rfl, u32_xor_nat _ _ h (by omega)]
def headB (kind : UInt8) (n : Nat) : List UInt8 := kind :: fixedB 4 n
def frameB (kind : UInt8) (body : List UInt8) : List UInt8 := [97, 98] ++ headB kind body.length ++ fixedB 4 (sumB (headB kind body.length ++ body)) ++ body
theorem headB_length (k : UInt8) (n : Nat) : (headB k n).length = 5 := by simp [headB, fixedB_length]
theorem frameB_length (k : UInt8) (body : List UInt8) : (frameB k body).length = body.length + 11 := by simp [frameB, headB_length, fixedB_length]; omega

/-- What is taken off a frame: the kind, the body, what is wrong. -/
def openB (l : List UInt8) : UInt8 × List UInt8 × Nat :=
  if l.length < 11 ∨ l[0]? ≠ some 97 ∨ l[1]? ≠ some 98 then (0, [], 14)
  else if 16777216 < leNat ((l.drop 3).take 4) then (0, [], 14)
  else if l.length - 11 < leNat ((l.drop 3).take 4) then (0, [], 10)
  else if leNat ((l.drop 3).take 4) < l.length - 11 then (0, [], 13)
  else if (l.drop 7).take 4 ≠ fixedB 4 (sumB ((l.drop 2).take 5 ++ l.drop 11)) then (0, [], 15)
  else (l.getD 2 0, l.drop 11, 0)

end Go.AB
