/- Marks that are written into lists. No program in sight. -/
import Derived.Test.YtdakcphkaljghaaOwn
namespace Go.AB
open Go.RowKit
set_option linter.unusedVariables false

/-- The mark of a list at a place. -/
def markB (i : Nat) (p : Int) : UInt8 := UInt8.ofNat (((i : Int) * 31 + p * 7 + 1) % 256).toNat
theorem markB_int (i : Nat) (p : Int) : ((i : Int) * 31 + p * 7 + 1) % 256 = ((markB i p).toNat : Int) := by
  have h1 := Int.emod_nonneg ((i : Int) * 31 + p * 7 + 1) (show (256 : Int) ≠ 0 by decide)
  have h2 := Int.emod_lt_of_pos ((i : Int) * 31 + p * 7 + 1) (show (0 : Int) < 256 by decide)
  unfold markB
  generalize ((i : Int) * 31 + p * 7 + 1) % 256 = x at *
  simp
  omega
/-- The first k bytes of the i-th list are marks. -/
def markN (l : List UInt8) (i : Nat) : Nat → List UInt8
  | 0 => l
  | k + 1 => (markN l i k).set k (markB i k)
theorem markN_length (l : List UInt8) (i : Nat) : ∀ k, (markN l i k).length = l.length
  | 0 => rfl
  | k + 1 => by rw [markN, List.length_set, markN_length l i k]
theorem markN_get (l : List UInt8) (i : Nat) : ∀ k j (hj : j < l.length), j < k → (markN l i k)[j]? = some (markB i j)
  | 0, j, _, h => by omega
  | k + 1, j, hj, h => by
    rw [markN, List.getElem?_set, markN_length]
    by_cases e : k = j
    · subst e; rw [if_pos rfl, if_pos hj]
    · rw [if_neg e]; exact markN_get l i k j hj (by omega)
/-- The first k marks behind the list's own. -/
def tailB (i k : Nat) : List UInt8 := (List.range k).map fun (q : Nat) => markB i (-1 - (q : Int))
theorem tailB_length (i k : Nat) : (tailB i k).length = k := by simp [tailB]
theorem tailB_succ (i k : Nat) : tailB i (k + 1) = tailB i k ++ [markB i (-1 - (k : Int))] := by simp [tailB, List.range_succ]
theorem tailB_get (i k j : Nat) (h : j < k) : (tailB i k)[j]? = some (markB i (-1 - (j : Int))) := by simp [tailB, h]
end Go.AB
