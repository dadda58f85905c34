/- Plain definitions for the lexer: what a source's tokens are. No program in sight. -/
import Derived.Test.YtmahcabidggmeaaGreatDoorBase2
namespace Go.AB
open Go.RowKit

theorem take_snoc {α : Type} (l : List α) (k : Nat) (h : k < l.length) : l.take (k + 1) = l.take k ++ [l[k]] := by
  rw [List.take_succ_eq_append_getElem h]

def isLetter (c : UInt8) : Bool := (97 ≤ c.toNat && c.toNat ≤ 122) || (65 ≤ c.toNat && c.toNat ≤ 90)
def isDigit (c : UInt8) : Bool := 48 ≤ c.toNat && c.toNat ≤ 57
def isWordly (c : UInt8) : Bool := isLetter c || isDigit c || c.toNat == 95
def notLf (c : UInt8) : Bool := c.toNat != 10
def isBlank (c : UInt8) : Bool := c.toNat == 9 || c.toNat == 13 || c.toNat == 32
/-- How many bytes at the head are of a kind. -/
def runLen (p : UInt8 → Bool) : List UInt8 → Nat
  | [] => 0
  | c :: l => if p c then runLen p l + 1 else 0
theorem runLen_le (p : UInt8 → Bool) : ∀ l, runLen p l ≤ l.length
  | [] => Nat.le_refl _
  | c :: l => by unfold runLen; have := runLen_le p l; split <;> simp <;> omega
def hexVal (c : UInt8) : Option Nat :=
  if isDigit c then some (c.toNat - 48) else if 97 ≤ c.toNat ∧ c.toNat ≤ 102 then some (c.toNat - 87) else if 65 ≤ c.toNat ∧ c.toNat ≤ 70 then some (c.toNat - 55) else none
def isHex (c : UInt8) : Bool := (hexVal c).isSome
def hexNat (l : List UInt8) : Nat := l.foldl (fun v c => 16 * v + (hexVal c).getD 0) 0
def decNat (l : List UInt8) : Nat := l.foldl (fun v c => 10 * v + (c.toNat - 48)) 0
/-- 64 bits as a number with a sign. -/
def asI64 (n : Nat) : Int := if n < 9223372036854775808 then (n : Int) else (n : Int) - 18446744073709551616

/-- The number that stands at the head: its value, how many bytes; none: there is none. -/
def numAt (l : List UInt8) : Option (Int × Nat) :=
  if l.head? = some 48 ∧ l[1]? = some 120 then
    if 1 ≤ runLen isHex (l.drop 2) ∧ runLen isHex (l.drop 2) ≤ 16 then some (asI64 (hexNat ((l.drop 2).take (runLen isHex (l.drop 2)))), runLen isHex (l.drop 2) + 2) else none
  else if l.head? = some 45 then
    if decNat ((l.drop 1).take (runLen isDigit (l.drop 1))) ≤ 9223372036854775808 then some (-(decNat ((l.drop 1).take (runLen isDigit (l.drop 1))) : Int), runLen isDigit (l.drop 1) + 1) else none
  else
    if decNat (l.take (runLen isDigit l)) ≤ 9223372036854775807 then some ((decNat (l.take (runLen isDigit l)) : Int), runLen isDigit l) else none
/-- Does a byte that may stand in a name stand there? -/
def wAt (l : List UInt8) (n : Nat) : Bool := match l[n]? with | some c => isWordly c | none => false
/-- A number may not be followed by what may stand in a name. -/
def numTokAt (l : List UInt8) : Option (Int × Nat) :=
  match numAt l with
  | none => none
  | some (v, n) => if wAt l n then none else some (v, n)

/-- What stands at the head: an error's number, or the kind, the text, the number, how many bytes. -/
def tokAt (l : List UInt8) : Nat × (Nat × List UInt8 × Int × Nat) :=
  match l with
  | [] => (0, 7, [], 0, 0)
  | c :: r =>
    if isLetter c then (0, 1, l.take (runLen isWordly l), 0, runLen isWordly l)
    else if isDigit c ∨ (c.toNat = 45 ∧ ∃ d ∈ r.head?, isDigit d = true) then
      match numTokAt l with
      | none => (71, 0, [], 0, 0)
      | some (v, n) => (0, 2, [], v, n)
    else if c.toNat = 44 then (0, 3, [], 0, 1)
    else if c.toNat = 58 then (0, 4, [], 0, 1)
    else if c.toNat = 61 then (0, 5, [], 0, 1)
    else if c.toNat = 10 then (0, 6, [], 0, 1)
    else (70, 0, [], 0, 0)
/-- How many bytes of blanks and remarks stand at the head. -/
def gapLen (f : Nat) (l : List UInt8) : Nat :=
  match f, l with
  | 0, _ => 0
  | _, [] => 0
  | f + 1, c :: r =>
    if isBlank c then gapLen f r + 1
    else if c.toNat = 59 then runLen notLf l + gapLen f (l.drop (runLen notLf l))
    else 0

theorem foldl_hex (l : List UInt8) (v : Nat) : l.foldl (fun v c => 16 * v + (hexVal c).getD 0) v + 1 ≤ (v + 1) * 16 ^ l.length := by
  induction l generalizing v with
  | nil => simp
  | cons c l ih =>
    have hc : (hexVal c).getD 0 ≤ 15 := by
      unfold hexVal isDigit
      split
      · rename_i h; simp at h ⊢; omega
      · split
        · simp; omega
        · split
          · simp; omega
          · simp
    have h1 := ih (16 * v + (hexVal c).getD 0)
    simp only [List.foldl_cons, List.length_cons, Nat.pow_succ']
    refine Nat.le_trans h1 ?_
    rw [← Nat.mul_assoc]
    exact Nat.mul_le_mul_right _ (by omega)
theorem hexNat_lt (l : List UInt8) (h : l.length ≤ 16) : hexNat l < 18446744073709551616 := by
  have h1 := foldl_hex l 0
  have h2 : 16 ^ l.length ≤ 16 ^ 16 := Nat.pow_le_pow_right (by decide) h
  unfold hexNat
  omega
end Go.AB
