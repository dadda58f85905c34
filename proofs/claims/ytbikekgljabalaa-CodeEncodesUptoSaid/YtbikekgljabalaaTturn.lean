/- Up to four neighbouring bytes of a frame's body turned: no frame. No program in sight. -/
import Derived.Test.YtbikekgljabalaaM08
namespace Go.AB
open Go.RowKit

/-- The byte of a number of 32 bits, counted from the lowest. -/
def yb (y j : Nat) : UInt8 := UInt8.ofNat (y / 2 ^ (8 * j))
/-- m bytes from place k on are turned by the bytes of y. -/
def turnN (l : List UInt8) (k y : Nat) : Nat → List UInt8
  | 0 => l
  | m + 1 => (turnN l k y m).set (k + m) ((turnN l k y m).getD (k + m) 0 ^^^ yb y m)
def chgN (y : Nat) : Nat → Bool
  | 0 => false
  | m + 1 => chgN y m || (yb y m != 0)
theorem turnN_length (l : List UInt8) (k y : Nat) : ∀ m, (turnN l k y m).length = l.length
  | 0 => rfl
  | m + 1 => by rw [turnN, List.length_set, turnN_length l k y m]
theorem turnN_get (l : List UInt8) (k y : Nat) : ∀ m i, (turnN l k y m)[i]? = if k ≤ i ∧ i < k + m then l[i]?.map (· ^^^ yb y (i - k)) else l[i]?
  | 0, i => by rw [if_neg (by omega)]; rfl
  | m + 1, i => by
    have ih := turnN_get l k y m
    rw [turnN, List.getElem?_set, turnN_length]
    by_cases h : k + m = i
    · subst h
      have hr : (k ≤ k + m ∧ k + m < k + (m + 1)) := by omega
      have hn : ¬ (k ≤ k + m ∧ k + m < k + m) := by omega
      by_cases hl : k + m < l.length
      · simp [List.getD, ih, hl]
      · simp [hl]
    · rw [if_neg h, ih]
      by_cases h2 : k ≤ i ∧ i < k + m
      · rw [if_pos h2, if_pos (by omega)]
      · rw [if_neg h2, if_neg (by omega)]
theorem chgN_true {y : Nat} : ∀ {m}, chgN y m = true → ∃ j, j < m ∧ yb y j ≠ 0
  | 0, h => by cases h
  | m + 1, h => by
    rw [chgN, Bool.or_eq_true] at h
    rcases h with h | h
    · obtain ⟨j, h1, h2⟩ := chgN_true h
      exact ⟨j, by omega, h2⟩
    · exact ⟨m, by omega, by simpa using h⟩
theorem yb_int (y m : Nat) : (y : Int) / 2 ^ (8 * m) % 256 = ((yb y m).toNat : Int) := by
  have h1 : (yb y m).toNat = y / 2 ^ (8 * m) % 256 := by unfold yb; simp
  rw [h1, Int.natCast_emod, Int.natCast_ediv, Int.natCast_pow]
  rfl
theorem xor_self_zero {x y : UInt8} (h : x = x ^^^ y) : y = 0 := by
  have h1 := congrArg (fun z => x ^^^ z) h
  simp only [← UInt8.xor_assoc, UInt8.xor_self, UInt8.zero_xor] at h1
  exact h1.symm
/-- A frame, its body turned at up to four neighbouring bytes, at least one of them. -/
theorem frame_turned (kd : UInt8) (body : List UInt8) (k y m : Nat) (hk : 11 ≤ k) (hm : m ≤ 4) (hkm : k + m ≤ (frameB kd body).length) (hc : chgN y m = true) : (openB (turnN (frameB kd body) k y m)).2.2 ≠ 0 := by
  intro hg
  obtain ⟨j, hj, hy⟩ := chgN_true hc
  have hfl := frameB_length kd body
  obtain ⟨p, rfl⟩ : ∃ p, k = p + 11 := ⟨k - 11, by omega⟩
  have hT := turnN_get (frameB kd body) (p + 11) y m
  have hTl := turnN_length (frameB kd body) (p + 11) y m
  have hF : frameB kd body = (frameB kd body).take 11 ++ body := by
    obtain ⟨_, _, _, _, _, _, _, _, _, _, hcns⟩ := frameB_cons kd body
    rw [hcns]; rfl
  have hFd : (frameB kd body).drop 11 = body := by
    conv => lhs; rw [hF]
    exact List.drop_left' (by rw [List.length_take]; omega)
  generalize hTe : turnN (frameB kd body) (p + 11) y m = T at *
  have hb : body = body.take p ++ (body.drop p).take m ++ body.drop (p + m) := by
    rw [List.append_assoc, ← List.drop_drop, List.take_append_drop, List.take_append_drop]
  have hTT : T = (frameB kd body).take 11 ++ (body.take p ++ (T.drop (p + 11)).take m ++ body.drop (p + m)) := by
    have t1 : T.take (p + 11) = (frameB kd body).take 11 ++ body.take p := by
      have : (frameB kd body).take 11 ++ body.take p = (frameB kd body).take (p + 11) := by
        conv => rhs; rw [hF]
        rw [List.take_append, List.length_take, hfl, show min 11 (body.length + 11) = 11 from by omega, show p + 11 - 11 = p from by omega]
        congr 1
        exact (List.take_of_length_le (by rw [List.length_take]; omega)).symm
      rw [this]
      apply List.ext_getElem?
      intro i
      rw [List.getElem?_take, List.getElem?_take]
      split
      · rw [hT, if_neg (by omega)]
      · rfl
    have t2 : T.drop (p + 11 + m) = body.drop (p + m) := by
      apply List.ext_getElem?
      intro i
      rw [List.getElem?_drop, List.getElem?_drop, hT, if_neg (by omega), ← hFd, List.getElem?_drop]
      congr 1
      omega
    conv => lhs; rw [← List.take_append_drop (p + 11) T, t1]
    rw [List.append_assoc, List.append_assoc]
    congr 2
    rw [← t2, ← List.drop_drop (i := m), List.take_append_drop]
  have h1 := frame_window kd (a := body.take p) (l := (body.drop p).take m) (m := (T.drop (p + 11)).take m) (z := body.drop (p + m))
    (by simp only [List.length_take, List.length_drop]; omega) (by rw [List.length_take]; omega) hg (by rw [← hb]; exact hTT)
  have h2 := congrArg (fun l => l[j]?) h1
  simp only [List.getElem?_take, if_pos hj, List.getElem?_drop] at h2
  rw [hT, if_pos (by omega)] at h2
  have hbj : p + j < body.length := by omega
  have e1 : (frameB kd body)[p + 11 + j]? = body[p + j]? := by
    rw [← hFd, List.getElem?_drop]; congr 1; omega
  rw [e1, List.getElem?_eq_getElem hbj] at h2
  simp only [Option.map_some, Option.some.injEq, show p + 11 + j - (p + 11) = j from by omega] at h2
  exact hy (xor_self_zero h2)
/-- One byte of a frame turned. -/
theorem frame_turned_one (kd : UInt8) (body : List UInt8) (k : Nat) (y : UInt8) (hk : k < (frameB kd body).length) (hy : y ≠ 0) : (openB ((frameB kd body).set k ((frameB kd body)[k] ^^^ y))).2.2 ≠ 0 := fun hg =>
  hy (xor_self_zero (frame_one kd body k _ hk hg))
end Go.AB
