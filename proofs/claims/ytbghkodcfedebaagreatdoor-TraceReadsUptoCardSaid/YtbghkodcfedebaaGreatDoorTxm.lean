/- The trace layer's reference, plain: its numbers, what a line tells by them. -/
import Derived.Test.YtbghkodcfedebaaGreatDoorTxb
set_option linter.unusedVariables false
set_option linter.unusedSectionVars false
set_option linter.unusedSimpArgs false
namespace Go.AB
open Go.RowKit
/-- The value of digits. -/
def valD (l : List UInt8) : Nat := l.foldl (fun n c => 10 * n + (c.toNat - 48)) 0
theorem valD_snoc (l : List UInt8) (c : UInt8) : valD (l ++ [c]) = 10 * valD l + (c.toNat - 48) := by simp [valD, List.foldl_append]
def digD (l : List UInt8) : Prop := ∀ c ∈ l, 48 ≤ c.toNat ∧ c.toNat ≤ 57
theorem snoc_cases {α : Type} (l : List α) : l = [] ∨ ∃ r c, l = r ++ [c] := by
  rcases List.eq_nil_or_concat l with h | ⟨r, c, h⟩
  · exact .inl h
  · exact .inr ⟨r, c, by simpa using h⟩
theorem valD_dec : ∀ (n u : Nat), u < n → valD (Lib.decDigits u) = u
  | 0, u, h => absurd h (Nat.not_lt_zero _)
  | n + 1, u, h => by
    by_cases h10 : u < 10
    · rw [Lib.decDigits, dif_pos h10]
      simp only [valD, List.foldl_cons, List.foldl_nil, dig_b h10]
      omega
    · rw [Lib.decDigits, dif_neg h10, valD_snoc, valD_dec n (u / 10) (by omega), dig_b (by omega)]
      omega
theorem valD_lt : ∀ (n : Nat) (l : List UInt8), l.length = n → digD l → valD l < 10 ^ n
  | 0, l, h, _ => by obtain rfl := List.eq_nil_of_length_eq_zero h; simp [valD]
  | n + 1, l, h, hd => by
    rcases snoc_cases l with rfl | ⟨r, c, rfl⟩
    · simp at h
    · have hc := hd c (by simp)
      have ih := valD_lt n r (by simpa using h) (fun y hy => hd y (by simp [hy]))
      rw [valD_snoc, Nat.pow_succ]
      omega
theorem dec_valD : ∀ (n : Nat) (l : List UInt8), l.length ≤ n → l ≠ [] → digD l → (l.length = 1 ∨ l.head? ≠ some 48) → Lib.decDigits (valD l) = l
  | 0, l, hn, hne, _, _ => absurd (List.eq_nil_of_length_eq_zero (by omega)) hne
  | n + 1, l, hn, hne, hd, hz => by
    rcases snoc_cases l with rfl | ⟨r, c, rfl⟩
    · exact absurd rfl hne
    · have hc := hd c (by simp)
      have hcu : UInt8.ofNat (48 + (c.toNat - 48)) = c := by
        rw [show 48 + (c.toNat - 48) = c.toNat by omega]
        simp
      rw [valD_snoc]
      cases r with
      | nil =>
        rw [show 10 * valD [] + (c.toNat - 48) = c.toNat - 48 from by simp [valD], Lib.decDigits, dif_pos (by omega), hcu]
        rfl
      | cons x r =>
        have hz2 : x ≠ 48 := by
          rcases hz with h | h
          · simp at h
          · simpa using h
        have ih := dec_valD n (x :: r) (by simp at hn ⊢; omega) (by simp) (fun y hy => hd y (by
          rcases List.mem_cons.1 hy with rfl | hy
          · simp
          · simp [hy])) (.inr (by simpa using hz2))
        have h1 : valD (x :: r) ≠ 0 := fun h0 => by
          rw [h0, Lib.decDigits, dif_pos (by omega)] at ih
          simp only [List.cons.injEq] at ih
          exact hz2 ih.1.symm
        rw [Lib.decDigits, dif_neg (by omega), show (10 * valD (x :: r) + (c.toNat - 48)) / 10 = valD (x :: r) by omega, show (10 * valD (x :: r) + (c.toNat - 48)) % 10 = c.toNat - 48 by omega, ih, hcu]
theorem dec_head : ∀ (n u : Nat), u < n → (Lib.decDigits u).head? = some 48 → u = 0
  | 0, u, h, _ => absurd h (Nat.not_lt_zero _)
  | n + 1, u, h, hh => by
    by_cases h10 : u < 10
    · rw [Lib.decDigits, dif_pos h10] at hh
      simp only [List.head?_cons, Option.some.injEq] at hh
      have := congrArg UInt8.toNat hh
      rw [dig_b h10] at this
      have h48 : (48 : UInt8).toNat = 48 := rfl
      omega
    · rw [Lib.decDigits, dif_neg h10] at hh
      have hne := (dec_digits _ (u / 10) (Nat.lt_succ_self _)).2
      have h2 : (Lib.decDigits (u / 10)).head? = some 48 := by
        cases h3 : Lib.decDigits (u / 10) with
        | nil => exact absurd h3 hne
        | cons a b => rw [h3] at hh; simpa using hh
      have := dec_head n (u / 10) (by omega) h2
      omega
theorem dec_len5 : ∀ (k u : Nat), u < 10 ^ (k + 1) → (Lib.decDigits u).length ≤ k + 1
  | 0, u, h => by rw [Lib.decDigits, dif_pos (by omega)]; simp
  | k + 1, u, h => by
    by_cases h10 : u < 10
    · rw [Lib.decDigits, dif_pos h10]; simp
    · rw [Lib.decDigits, dif_neg h10, List.length_append]
      have := dec_len5 k (u / 10) (by rw [Nat.pow_succ] at h; omega)
      simp only [List.length_cons, List.length_nil]
      omega
def badNum (s : List UInt8) : Prop := s = [] ∨ 5 < s.length ∨ (1 < s.length ∧ s.head? = some 48) ∨ ¬ digD s
/-- A number of at most five digits as it is written; -1: it is none. -/
noncomputable def numR (s : List UInt8) : Int := open Classical in if badNum s then -1 else valD s
theorem numR_bad {s : List UInt8} (h : badNum s) : numR s = -1 := by unfold numR; rw [if_pos h]
theorem numR_val {s : List UInt8} (h : ¬ badNum s) : numR s = valD s := by unfold numR; rw [if_neg h]
theorem num_one (s : List UInt8) : (numR s = -1 ∧ ∀ v, numE s = some v → 65535 ≤ v) ∨ (0 ≤ numR s ∧ numE s = some (numR s)) := by
  by_cases hb : badNum s
  · left
    refine ⟨numR_bad hb, fun v hv => ?_⟩
    obtain ⟨h0, hs⟩ := numE_some hv
    obtain ⟨u, rfl⟩ : ∃ u : Nat, v = u := ⟨v.toNat, by omega⟩
    rw [itoa_nat] at hs
    apply Classical.byContradiction
    intro hlt
    have hd := dec_digits _ u (Nat.lt_succ_self _)
    have hl := dec_len5 4 u (by omega)
    have hz := dec_head _ u (Nat.lt_succ_self _)
    rw [hs] at hd hl hz
    rcases hb with h | h | ⟨h1, h2⟩ | h
    · exact hd.2 h
    · omega
    · have := hz h2
      subst this
      rw [Lib.decDigits, dif_pos (by omega)] at hs
      rw [← hs] at h1
      simp at h1
    · exact h hd.1
  · right
    have hv := numR_val hb
    have hb' := hb
    unfold badNum at hb
    simp only [not_or, not_and] at hb
    obtain ⟨h1, h2, h3, h4⟩ := hb
    have hd : digD s := Classical.not_not.1 h4
    have hlt := valD_lt _ s rfl hd
    have h5 : 10 ^ s.length ≤ 10 ^ 5 := Nat.pow_le_pow_right (by decide) (by omega)
    have he := dec_valD _ s (Nat.le_refl _) h1 hd (by
      by_cases h : s.length = 1
      · exact .inl h
      · have := List.length_pos_iff.2 h1
        exact .inr (h3 (by omega)))
    have hi := numE_itoa (n := (valD s : Int)) (by omega) (by omega)
    rw [itoa_nat, he] at hi
    rw [hv]
    exact ⟨by omega, hi⟩
theorem chkE_out {k t o : Int} (h : ¬ (0 ≤ t ∧ t < 65535 ∧ 0 ≤ o ∧ o < 65535)) : chkE ⟨k, t, o⟩ = none := by
  unfold chkE
  rw [if_neg (fun hp => h (by have := plainE_out hp; simp only at this; omega))]
theorem read_two {s w a : List UInt8} (h : splitE s = [w, a]) (hw : idxE w = 11) : readE s = chkE ⟨11, numR a, 0⟩ := by
  rw [readE_two h, if_pos hw]
  rcases num_one a with ⟨h1, h2⟩ | ⟨h1, h2⟩
  · rw [h1, chkE_out (by omega)]
    cases hn : numE a with
    | none => rfl
    | some v => have := h2 v hn; rw [Option.bind_some, chkE_out (by omega)]
  · rw [h2, Option.bind_some]
theorem read_three {s w a b : List UInt8} (h : splitE s = [w, a, b]) (hw : idxE w ≠ 0) (hx : idxE w ≠ 11) : readE s = chkE ⟨idxE w, numR a, numR b⟩ := by
  rw [readE_three h, if_neg (by omega)]
  rcases num_one a with ⟨h1, h2⟩ | ⟨h1, h2⟩
  · rw [h1, chkE_out (by omega)]
    cases hn : numE a with
    | none => rfl
    | some v =>
      have := h2 v hn
      rw [Option.bind_some]
      cases hm : numE b with
      | none => rfl
      | some u => rw [Option.bind_some, chkE_out (by omega)]
  · rw [h2, Option.bind_some]
    rcases num_one b with ⟨h3, h4⟩ | ⟨h3, h4⟩
    · rw [h3, chkE_out (by omega)]
      cases hm : numE b with
      | none => rfl
      | some u => have := h4 u hm; rw [Option.bind_some, chkE_out (by omega)]
    · rw [h4, Option.bind_some]
theorem readE_zero {s : List UInt8} (h : idxE ((splitE s).getD 0 []) = 0) : readE s = none := by
  by_cases h2 : (splitE s).length = 2
  · obtain ⟨w, a, hs⟩ := len2 h2
    rw [hs] at h
    simp only [List.getD_cons_zero] at h
    rw [readE_two hs, if_neg (by omega)]
  · by_cases h3 : (splitE s).length = 3
    · obtain ⟨w, a, b, hs⟩ := len3 h3
      rw [hs] at h
      simp only [List.getD_cons_zero] at h
      rw [readE_three hs, if_pos (.inl h)]
    · exact readE_else h2 h3
theorem readE_ex {s : List UInt8} (h : idxE ((splitE s).getD 0 []) = 11) (hn : (splitE s).length ≠ 2) : readE s = none := by
  by_cases h3 : (splitE s).length = 3
  · obtain ⟨w, a, b, hs⟩ := len3 h3
    rw [hs] at h
    simp only [List.getD_cons_zero] at h
    rw [readE_three hs, if_pos (.inr h)]
  · exact readE_else hn h3
theorem readE_no {s : List UInt8} (h : idxE ((splitE s).getD 0 []) ≠ 11) (hn : (splitE s).length ≠ 3) : readE s = none := by
  by_cases h2 : (splitE s).length = 2
  · obtain ⟨w, a, hs⟩ := len2 h2
    rw [hs] at h
    simp only [List.getD_cons_zero] at h
    rw [readE_two hs, if_neg h]
  · exact readE_else h2 hn
theorem read_ex {s : List UInt8} (h : idxE ((splitE s).getD 0 []) = 11) (hn : (splitE s).length = 2) : readE s = chkE ⟨11, numR ((splitE s).getD 1 []), 0⟩ := by
  obtain ⟨w, a, hs⟩ := len2 hn
  rw [hs] at h ⊢
  simp only [List.getD_cons_zero, List.getD_cons_succ] at h ⊢
  exact read_two hs h
theorem read_no {s : List UInt8} (h0 : idxE ((splitE s).getD 0 []) ≠ 0) (h : idxE ((splitE s).getD 0 []) ≠ 11) (hn : (splitE s).length = 3) : readE s = chkE ⟨idxE ((splitE s).getD 0 []), numR ((splitE s).getD 1 []), numR ((splitE s).getD 2 [])⟩ := by
  obtain ⟨w, a, b, hs⟩ := len3 hn
  rw [hs] at h0 h ⊢
  simp only [List.getD_cons_zero, List.getD_cons_succ] at h0 h ⊢
  exact read_three hs h0 h
/-- So far, and a piece that is not yet at its end. -/
theorem split_go {s q r : List UInt8} {D : List (List UInt8)} (h : D ++ splitE (q ++ 32 :: r) = splitE s) (hq : 32 ∉ q) : (D ++ [q]) ++ splitE r = splitE s := by
  rw [← h, splitE_app q r hq]
  simp
theorem split_end {s q : List UInt8} {D : List (List UInt8)} (h : D ++ splitE q = splitE s) (hq : 32 ∉ q) : D ++ [q] = splitE s := by
  rw [← h, splitE_no q hq]
end Go.AB
