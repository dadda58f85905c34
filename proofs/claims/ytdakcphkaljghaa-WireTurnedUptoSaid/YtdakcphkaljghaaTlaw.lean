/- What is opened is a frame; a frame that was turned is none. No program in sight. -/
import Derived.Test.YtdakcphkaljghaaTplain
namespace Go.AB
open Go.RowKit

theorem openB_err (l : List UInt8) (h : (openB l).2.2 ≠ 0) : (openB l).1 = 0 ∧ (openB l).2.1 = [] := by
  unfold openB at *
  repeat' split
  all_goals first | exact ⟨rfl, rfl⟩ | (exfalso; simp_all)
theorem headB_part (l : List UInt8) (h : 11 ≤ l.length) (hn : leNat ((l.drop 3).take 4) + 11 = l.length) : headB (l.getD 2 0) (l.drop 11).length = (l.drop 2).take 5 := by
  have e1 : fixedB 4 (l.drop 11).length = (l.drop 3).take 4 := by
    have h4 : ((l.drop 3).take 4).length = 4 := by simp; omega
    have := fixedB_leNat ((l.drop 3).take 4)
    rw [h4] at this
    rw [← this]
    congr 1
    simp; omega
  unfold headB
  have e2 : l.drop 2 = l[2] :: l.drop 3 := List.drop_eq_getElem_cons (show 2 < l.length by omega)
  rw [e1, e2, List.take_succ_cons]
  simp [List.getD, show 2 < l.length by omega]
theorem cut_parts (l : List UInt8) : l = l.take 2 ++ (l.drop 2).take 5 ++ (l.drop 7).take 4 ++ l.drop 11 := by
  have h1 : (l.drop 7).take 4 ++ l.drop 11 = l.drop 7 := by
    conv => rhs; rw [← List.take_append_drop 4 (l.drop 7), List.drop_drop]
  have h2 : (l.drop 2).take 5 ++ l.drop 7 = l.drop 2 := by
    conv => rhs; rw [← List.take_append_drop 5 (l.drop 2), List.drop_drop]
  rw [List.append_assoc, h1, List.append_assoc, h2, List.take_append_drop]
theorem openB_frame (l : List UInt8) (h : (openB l).2.2 = 0) : l = frameB (openB l).1 (openB l).2.1 := by
  unfold openB at *
  split at h
  · simp at h
  · rename_i h1
    rw [if_neg h1] at *
    split at h
    · simp at h
    · rename_i h2
      rw [if_neg h2] at *
      split at h
      · simp at h
      · rename_i h3
        rw [if_neg h3] at *
        split at h
        · simp at h
        · rename_i h4
          rw [if_neg h4] at *
          split at h
          · simp at h
          · rename_i h5
            rw [if_neg h5] at *
            simp only
            have hl : ¬ l.length < 11 := fun h => h1 (.inl h)
            have a0 : l[0]? = some 97 := Classical.not_not.1 fun h => h1 (.inr (.inl h))
            have a1 : l[1]? = some 98 := Classical.not_not.1 fun h => h1 (.inr (.inr h))
            have hs := Classical.not_not.1 h5
            have ht : l.take 2 = [97, 98] := by
              apply List.ext_getElem?
              intro i
              rw [List.getElem?_take]
              match i with
              | 0 => simpa using a0
              | 1 => simpa using a1
              | i + 2 => rw [if_neg (by omega)]; simp
            have hh := headB_part l (by omega) (by omega)
            conv => lhs; rw [cut_parts l]
            unfold frameB
            rw [hh, ht, hs]
theorem four_ex (l : List UInt8) (h : l.length = 4) : ∃ a b c d, l = [a, b, c, d] := by
  match l, h with
  | [a, b, c, d], _ => exact ⟨a, b, c, d, rfl⟩
/-- A frame, byte by byte at its head. -/
theorem frameB_cons (k : UInt8) (b : List UInt8) : ∃ x0 x1 x2 x3 y0 y1 y2 y3, fixedB 4 b.length = [x0, x1, x2, x3] ∧ fixedB 4 (sumB (k :: x0 :: x1 :: x2 :: x3 :: b)) = [y0, y1, y2, y3] ∧
    frameB k b = 97 :: 98 :: k :: x0 :: x1 :: x2 :: x3 :: y0 :: y1 :: y2 :: y3 :: b := by
  obtain ⟨x0, x1, x2, x3, hx⟩ := four_ex (fixedB 4 b.length) (fixedB_length _ _)
  obtain ⟨y0, y1, y2, y3, hy⟩ := four_ex (fixedB 4 (sumB (k :: x0 :: x1 :: x2 :: x3 :: b))) (fixedB_length _ _)
  refine ⟨x0, x1, x2, x3, y0, y1, y2, y3, hx, hy, ?_⟩
  have hh : headB k b.length = [k, x0, x1, x2, x3] := by unfold headB; rw [hx]
  unfold frameB
  rw [hh, show [k, x0, x1, x2, x3] ++ b = k :: x0 :: x1 :: x2 :: x3 :: b from rfl, hy]
  rfl
theorem openB_of_frame (k : UInt8) (b : List UInt8) (h : b.length ≤ 16777216) : openB (frameB k b) = (k, b, 0) := by
  obtain ⟨x0, x1, x2, x3, y0, y1, y2, y3, hx, hy, hf⟩ := frameB_cons k b
  have hn : leNat [x0, x1, x2, x3] = b.length := by rw [← hx, leNat_fixedB, Nat.mod_eq_of_lt (by omega)]
  rw [hf]
  unfold openB
  have e1 : ((97 :: 98 :: k :: x0 :: x1 :: x2 :: x3 :: y0 :: y1 :: y2 :: y3 :: b).drop 3).take 4 = [x0, x1, x2, x3] := rfl
  have e2 : ((97 :: 98 :: k :: x0 :: x1 :: x2 :: x3 :: y0 :: y1 :: y2 :: y3 :: b).drop 7).take 4 = [y0, y1, y2, y3] := rfl
  have e3 : ((97 :: 98 :: k :: x0 :: x1 :: x2 :: x3 :: y0 :: y1 :: y2 :: y3 :: b).drop 2).take 5 = [k, x0, x1, x2, x3] := rfl
  have e4 : (97 :: 98 :: k :: x0 :: x1 :: x2 :: x3 :: y0 :: y1 :: y2 :: y3 :: b).drop 11 = b := rfl
  have e5 : (97 :: 98 :: k :: x0 :: x1 :: x2 :: x3 :: y0 :: y1 :: y2 :: y3 :: b).length = b.length + 11 := rfl
  rw [e1, e2, e3, e4, e5, hn]
  rw [if_neg (by simp), if_neg (by omega), if_neg (by omega), if_neg (by omega), if_neg (by rw [show [k, x0, x1, x2, x3] ++ b = k :: x0 :: x1 :: x2 :: x3 :: b from rfl, hy]; simp)]
  rfl
theorem sumB_of_bytes {l m : List UInt8} (h : fixedB 4 (sumB l) = fixedB 4 (sumB m)) : sumB l = sumB m := by
  have h1 := congrArg leNat h
  rw [leNat_fixedB, leNat_fixedB, Nat.mod_eq_of_lt (sumB_lt l), Nat.mod_eq_of_lt (sumB_lt m)] at h1
  exact h1
/-- Two frames of one kind whose bodies differ in a window of at most four bytes bear unlike sums. -/
theorem frame_window (k : UInt8) {a l m z : List UInt8} (hl : l.length = m.length) (h4 : l.length ≤ 4) {g : List UInt8} (hg : (openB g).2.2 = 0) (he : g = (frameB k (a ++ l ++ z)).take 11 ++ (a ++ m ++ z)) : l = m := by
  have hf := openB_frame g hg
  generalize (openB g).1 = k' at hf
  generalize (openB g).2.1 = b' at hf
  obtain ⟨x0, x1, x2, x3, y0, y1, y2, y3, hx, hy, hc⟩ := frameB_cons k (a ++ l ++ z)
  obtain ⟨u0, u1, u2, u3, v0, v1, v2, v3, hu, hv, hd⟩ := frameB_cons k' b'
  rw [hc] at he
  rw [hd] at hf
  rw [hf] at he
  have he' : 97 :: 98 :: k' :: u0 :: u1 :: u2 :: u3 :: v0 :: v1 :: v2 :: v3 :: b' = 97 :: 98 :: k :: x0 :: x1 :: x2 :: x3 :: y0 :: y1 :: y2 :: y3 :: (a ++ m ++ z) := he
  simp only [List.cons.injEq, true_and] at he'
  obtain ⟨rfl, rfl, rfl, rfl, rfl, rfl, rfl, rfl, rfl, rfl⟩ := he'
  rw [← hy] at hv
  have h1 := sumB_of_bytes hv
  have h2 : (k' :: u0 :: u1 :: u2 :: u3 :: a) ++ m ++ z = k' :: u0 :: u1 :: u2 :: u3 :: (a ++ m ++ z) := by simp
  have h3 : (k' :: u0 :: u1 :: u2 :: u3 :: a) ++ l ++ z = k' :: u0 :: u1 :: u2 :: u3 :: (a ++ l ++ z) := by simp
  rw [← h2, ← h3] at h1
  exact (sumB_window (hl.symm) (by omega) h1).symm
/-- One byte of a frame that is another: no frame. -/
theorem frame_one (k : UInt8) (b : List UInt8) (i : Nat) (y : UInt8) (hi : i < (frameB k b).length) (hg : (openB ((frameB k b).set i y)).2.2 = 0) : (frameB k b)[i] = y := by
  by_cases h11 : 11 ≤ i
  · have hb : i - 11 < b.length := by rw [frameB_length] at hi; omega
    obtain ⟨x0, x1, x2, x3, y0, y1, y2, y3, hx, hy, hc⟩ := frameB_cons k b
    have e0 : b = b.take (i - 11) ++ [b[i - 11]] ++ b.drop (i - 11 + 1) := by
      rw [List.append_assoc, List.singleton_append, ← List.drop_eq_getElem_cons hb, List.take_append_drop]
    have e1 : b.set (i - 11) y = b.take (i - 11) ++ [y] ++ b.drop (i - 11 + 1) := by
      rw [List.set_eq_take_append_cons_drop, if_pos hb]; simp
    have he : (frameB k b).set i y = (frameB k b).take 11 ++ b.set (i - 11) y := by
      rw [hc]
      obtain ⟨j, rfl⟩ : ∃ j, i = j + 11 := ⟨i - 11, by omega⟩
      simp
    have h1 := frame_window k (a := b.take (i - 11)) (l := [b[i - 11]]) (m := [y]) (z := b.drop (i - 11 + 1)) rfl (by simp) hg (by rw [← e0, ← e1]; exact he)
    have h2 : (frameB k b)[i] = b[i - 11] := by
      simp only [hc]
      obtain ⟨j, rfl⟩ : ∃ j, i = j + 11 := ⟨i - 11, by omega⟩
      simp
    rw [h2]
    simpa using h1
  · have hf := openB_frame _ hg
    generalize (openB ((frameB k b).set i y)).1 = k' at hf
    generalize (openB ((frameB k b).set i y)).2.1 = b' at hf
    clear hg
    obtain ⟨x0, x1, x2, x3, y0, y1, y2, y3, hx, hy, hc⟩ := frameB_cons k b
    obtain ⟨u0, u1, u2, u3, v0, v1, v2, v3, hu, hv, hd⟩ := frameB_cons k' b'
    rw [hd, hc] at hf
    simp only [hc]
    have hh : i = 0 ∨ i = 1 ∨ i = 2 ∨ i = 3 ∨ i = 4 ∨ i = 5 ∨ i = 6 ∨ i = 7 ∨ i = 8 ∨ i = 9 ∨ i = 10 := by omega
    rcases hh with rfl | rfl | rfl | rfl | rfl | rfl | rfl | rfl | rfl | rfl | rfl
    all_goals
      simp only [List.set_cons_succ, List.set_cons_zero, List.cons.injEq, true_and] at hf
      simp only [List.getElem_cons_succ, List.getElem_cons_zero]
    · exact hf.1.symm
    · exact hf.1.symm
    · obtain ⟨rfl, rfl, rfl, rfl, rfl, rfl, rfl, rfl, rfl, rfl⟩ := hf
      rw [← hy] at hv
      have h1 := sumB_of_bytes hv
      have := sumB_window (a := []) (l := [y]) (m := [k]) (z := x0 :: x1 :: x2 :: x3 :: b) rfl (by simp) h1
      simpa using this.symm
    all_goals
      obtain ⟨rfl, rfl, rfl, rfl, rfl, rfl, rfl, rfl, rfl, rfl⟩ := hf
      first
        | (rw [hx] at hu; simp only [List.cons.injEq, and_true] at hu; simp [hu]; done)
        | (rw [hy] at hv; simp only [List.cons.injEq, and_true] at hv; simp [hv]; done)
end Go.AB
