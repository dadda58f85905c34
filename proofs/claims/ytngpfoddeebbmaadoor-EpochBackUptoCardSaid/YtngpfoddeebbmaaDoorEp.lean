/- Epochs, plain. No program in sight. -/
import Derived.Test.YtngpfoddeebbmaaDoorOwn
namespace Go.AB
open Go.RowKit

/-- What packing answers: the epoch, the error. -/
def packE (t c : Int) : Int × Int := if t < 0 ∨ 65535 ≤ t ∨ c = 0 ∨ 281474976710655 < c then (0, 2) else (t * 281474976710656 + c, 0)
/-- An epoch's parts: the thread, the clock, whether it may be. -/
def partsE (E : Int) : Int × Int × Bool :=
  if E = 0 then (0, 0, true) else if 65535 ≤ E / 281474976710656 ∨ E % 281474976710656 = 0 then (0, 0, false) else (E / 281474976710656, E % 281474976710656, true)
def nextE (E : Int) : Int × Int := if (partsE E).2.1 = 0 then (0, 2) else if (partsE E).2.1 = 281474976710655 then (0, 20) else (E + 1, 0)
theorem packE_no {t c : Int} (h : t < 0 ∨ 65535 ≤ t ∨ c = 0 ∨ 281474976710655 < c) : packE t c = (0, 2) := by unfold packE; rw [if_pos h]
theorem packE_yes {t c : Int} (h0 : 0 ≤ t) (h : t < 65535) (h1 : c ≠ 0) (h2 : c ≤ 281474976710655) : packE t c = (t * 281474976710656 + c, 0) := by unfold packE; rw [if_neg (by omega)]
theorem partsE_zero : partsE 0 = (0, 0, true) := by unfold partsE; rw [if_pos rfl]
theorem partsE_no {E : Int} (h0 : E ≠ 0) (h : 65535 ≤ E / 281474976710656 ∨ E % 281474976710656 = 0) : partsE E = (0, 0, false) := by unfold partsE; rw [if_neg h0, if_pos h]
theorem partsE_yes {E : Int} (h0 : E ≠ 0) (h1 : E / 281474976710656 < 65535) (h2 : E % 281474976710656 ≠ 0) : partsE E = (E / 281474976710656, E % 281474976710656, true) := by unfold partsE; rw [if_neg h0, if_neg (by omega)]
theorem partsE_pack {t c : Int} (h0 : 0 ≤ t) (h : t < 65535) (h1 : 0 < c) (h2 : c ≤ 281474976710655) : partsE (t * 281474976710656 + c) = (t, c, true) := by
  have e1 : (t * 281474976710656 + c) / 281474976710656 = t := by omega
  have e2 : (t * 281474976710656 + c) % 281474976710656 = c := by omega
  rw [partsE_yes (by omega) (by omega) (by omega), e1, e2]
theorem partsE_bd (E : Int) (h0 : 0 ≤ E) : 0 ≤ (partsE E).1 ∧ (partsE E).1 < 65535 ∧ 0 ≤ (partsE E).2.1 ∧ (partsE E).2.1 ≤ 281474976710655 := by
  unfold partsE
  split
  · simp
  split
  · simp
  · simp only; omega
theorem or_add (t c : Nat) (hc : c < 281474976710656) : (t * 281474976710656) ||| c = t * 281474976710656 + c := by
  have h := Nat.shiftLeft_add_eq_or_of_lt (a := t) (b := c) (i := 48) hc
  rw [Nat.shiftLeft_eq] at h
  exact h.symm
end Go.AB
