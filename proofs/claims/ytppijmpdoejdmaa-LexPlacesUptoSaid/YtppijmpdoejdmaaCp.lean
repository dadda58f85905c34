/- Places of bytes, plain. No program in sight. -/
import Derived.Test.YtppijmpdoejdmaaBase2
namespace Go.AB
open Go.RowKit

/-- The line and column behind a byte. -/
def plStep (p : Nat × Nat) (c : UInt8) : Nat × Nat := if c.toNat = 10 then (p.1 + 1, 1) else (p.1, p.2 + 1)
/-- The line and column of the byte at a place. -/
def plAt (L : List UInt8) (a : Nat) : Nat × Nat := (L.take a).foldl plStep (1, 1)
/-- Of any number the place; what is none has none. -/
def plOf (L : List UInt8) (a : Int) : Nat × Nat := if a < 0 ∨ (L.length : Int) < a then (0, 0) else plAt L a.toNat
theorem plAt_zero (L : List UInt8) : plAt L 0 = (1, 1) := rfl
theorem plAt_succ (L : List UInt8) (a : Nat) (h : a < L.length) : plAt L (a + 1) = plStep (plAt L a) L[a] := by
  unfold plAt
  rw [List.take_succ_eq_append_getElem h, List.foldl_append]
  rfl
theorem plAt_le (L : List UInt8) : ∀ a, a ≤ L.length → 1 ≤ (plAt L a).1 ∧ (plAt L a).1 ≤ a + 1 ∧ 1 ≤ (plAt L a).2 ∧ (plAt L a).2 ≤ a + 1
  | 0, _ => by simp [plAt_zero]
  | a + 1, h => by
    have ih := plAt_le L a (by omega)
    rw [plAt_succ L a (by omega)]
    unfold plStep
    split <;> simp only <;> omega
/-- The places of the line feeds ahead of a place. -/
def lfsTo (L : List UInt8) : Nat → List Nat
  | 0 => []
  | i + 1 => if L[i]? = some 10 then lfsTo L i ++ [i] else lfsTo L i
theorem lfsTo_yes {L : List UInt8} {i : Nat} (h : L[i]? = some 10) : lfsTo L (i + 1) = lfsTo L i ++ [i] := by rw [lfsTo, if_pos h]
theorem lfsTo_no {L : List UInt8} {i : Nat} (h : L[i]? ≠ some 10) : lfsTo L (i + 1) = lfsTo L i := by rw [lfsTo, if_neg h]
theorem lfsTo_lt (L : List UInt8) : ∀ i, ∀ x ∈ lfsTo L i, x < i
  | 0, x, h => by simp [lfsTo] at h
  | i + 1, x, h => by
    rw [lfsTo] at h
    split at h
    · rcases List.mem_append.1 h with h | h
      · have := lfsTo_lt L i x h; omega
      · simp at h; omega
    · have := lfsTo_lt L i x h; omega
theorem lfsTo_len (L : List UInt8) : ∀ i, (lfsTo L i).length ≤ i
  | 0 => by simp [lfsTo]
  | i + 1 => by
    have := lfsTo_len L i
    rw [lfsTo]
    split
    · simp; omega
    · omega
theorem lfsTo_more (L : List UInt8) (i : Nat) : ∀ k, ∃ r, lfsTo L (i + k) = lfsTo L i ++ r ∧ ∀ x ∈ r, i ≤ x
  | 0 => ⟨[], by simp, by simp⟩
  | k + 1 => by
    obtain ⟨r, h1, h2⟩ := lfsTo_more L i k
    rw [show i + (k + 1) = (i + k) + 1 from rfl, lfsTo]
    split
    · refine ⟨r ++ [i + k], by rw [h1, List.append_assoc], fun x hx => ?_⟩
      rcases List.mem_append.1 hx with h | h
      · exact h2 x h
      · simp at h; omega
    · exact ⟨r, h1, h2⟩
/-- Where the line begins that the last of these ends. -/
def begunOf (l : List Nat) : Nat := match l.getLast? with | some x => x + 1 | none => 0
theorem begunOf_snoc (l : List Nat) (x : Nat) : begunOf (l ++ [x]) = x + 1 := by simp [begunOf]
theorem begunOf_nil : begunOf [] = 0 := rfl
theorem plAt_lfs (L : List UInt8) : ∀ a, a ≤ L.length → plAt L a = ((lfsTo L a).length + 1, a - begunOf (lfsTo L a) + 1) ∧ begunOf (lfsTo L a) ≤ a
  | 0, _ => by simp [plAt_zero, lfsTo, begunOf_nil]
  | a + 1, h => by
    obtain ⟨ih, ih2⟩ := plAt_lfs L a (by omega)
    have hg : L[a]? = some L[a] := List.getElem?_eq_getElem (by omega)
    rw [plAt_succ L a (by omega), ih]
    unfold plStep
    by_cases h10 : L[a].toNat = 10
    · have h1 : L[a]? = some 10 := by rw [hg]; congr 1; exact UInt8.toNat_inj.1 h10
      rw [if_pos h10, lfsTo_yes h1, begunOf_snoc]
      simp
    · have h1 : L[a]? ≠ some 10 := by rw [hg]; intro e; simp only [Option.some.injEq] at e; rw [e] at h10; exact h10 rfl
      rw [if_neg h10, lfsTo_no h1]
      refine ⟨?_, by omega⟩
      congr 1
      show a - begunOf (lfsTo L a) + 1 + 1 = a + 1 - begunOf (lfsTo L a) + 1
      omega
/-- How many of the lines' ends lie ahead, found by going over them. -/
theorem lines_stop {L : List UInt8} {a n : Nat} (ha : a ≤ L.length) (hn : n ≤ (lfsTo L L.length).length) (h1 : ∀ j (hj : j < (lfsTo L L.length).length), j < n → (lfsTo L L.length)[j] < a) (h2 : ∀ (hj : n < (lfsTo L L.length).length), a ≤ (lfsTo L L.length)[n]) :
    plAt L a = (n + 1, a - begunOf ((lfsTo L L.length).take n) + 1) ∧ begunOf ((lfsTo L L.length).take n) ≤ a := by
  obtain ⟨r, hr1, hr2⟩ := lfsTo_more L a (L.length - a)
  rw [show a + (L.length - a) = L.length from by omega] at hr1
  have hlt := lfsTo_lt L a
  have hnn : n = (lfsTo L a).length := by
    rcases Nat.lt_trichotomy n (lfsTo L a).length with h | h | h
    · have hh := h2 (by rw [hr1, List.length_append]; omega)
      have h4 : (lfsTo L L.length)[n]'(by rw [hr1, List.length_append]; omega) = (lfsTo L a)[n] := by simp only [hr1]; exact List.getElem_append_left h
      rw [h4] at hh
      have := hlt _ (List.getElem_mem h)
      omega
    · exact h
    · have hl : (lfsTo L a).length < (lfsTo L L.length).length := by omega
      have hh := h1 (lfsTo L a).length hl h
      have h4 : (lfsTo L L.length)[(lfsTo L a).length]'hl = r[0]'(by rw [hr1, List.length_append] at hl; omega) := by
        simp only [hr1]
        rw [List.getElem_append_right (Nat.le_refl _)]
        simp
      rw [h4] at hh
      have := hr2 _ (List.getElem_mem (show 0 < r.length by rw [hr1, List.length_append] at hl; omega))
      omega
  have ht : (lfsTo L L.length).take n = lfsTo L a := by rw [hr1, hnn, List.take_left]
  rw [ht, hnn]
  exact plAt_lfs L a ha
theorem begun_take (l : List Nat) (n : Nat) (h : n < l.length) : begunOf (l.take (n + 1)) = l[n] + 1 := by
  rw [List.take_succ_eq_append_getElem h, begunOf_snoc]
end Go.AB
