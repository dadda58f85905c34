/- What a token is, cut off behind its last byte. No program in sight. -/
import Derived.Test.YtmahcabidggmeaaGreatDoorAscan
namespace Go.AB
open Go.RowKit

/-- What follows begins with nothing that may stand in a name. -/
def nonw (z : List UInt8) : Prop := ∀ c, z.head? = some c → isWordly c = false
theorem nonw_nil : nonw [] := fun c h => by cases h
theorem nonw_cons {c : UInt8} {z : List UInt8} (h : isWordly c = false) : nonw (c :: z) := fun d hd => by cases hd; exact h
theorem runLen_append {p : UInt8 → Bool} {z : List UInt8} (hz : ∀ c, z.head? = some c → p c = false) : ∀ l : List UInt8, (∀ c ∈ l, p c = true) → runLen p (l ++ z) = l.length
  | [], _ => by
    cases z with
    | nil => rfl
    | cons c z => rw [List.nil_append, runLen, if_neg (by rw [hz c rfl]; simp)]; rfl
  | c :: l, h => by rw [List.cons_append, runLen, if_pos (h c (by simp)), runLen_append hz l (fun d hd => h d (by simp [hd])), List.length_cons]
theorem runLen_all (p : UInt8 → Bool) : ∀ l : List UInt8, ∀ c ∈ l.take (runLen p l), p c = true
  | [], c, h => by simp at h
  | x :: l, c, h => by
    rw [runLen] at h
    split at h
    · rename_i hx
      rw [List.take_succ_cons] at h
      rcases List.mem_cons.1 h with rfl | h
      · exact hx
      · exact runLen_all p l c h
    · simp at h
theorem runLen_cut {p : UInt8 → Bool} {z : List UInt8} (hz : ∀ c, z.head? = some c → p c = false) (l : List UInt8) : runLen p (l.take (runLen p l) ++ z) = runLen p l := by
  rw [runLen_append hz _ (runLen_all p l), List.length_take, Nat.min_eq_left (runLen_le p l)]
theorem runLen_next {p : UInt8 → Bool} : ∀ (l : List UInt8) (c : UInt8), l[runLen p l]? = some c → p c = false
  | [], c, h => by simp at h
  | x :: l, c, h => by
    rw [runLen] at h
    split at h
    · exact runLen_next l c (by simpa using h)
    · rename_i hx
      simp only [List.getElem?_cons_zero, Option.some.injEq] at h
      subst h
      simpa using hx
theorem take_app {l z : List UInt8} {n : Nat} (h : n ≤ l.length) : (l.take n ++ z).take n = l.take n := by
  rw [List.take_append_of_le_length (by rw [List.length_take]; omega), List.take_take, Nat.min_self]
theorem wordly_digit {c : UInt8} (h : isWordly c = false) : isDigit c = false := by
  cases hd : isDigit c with
  | false => rfl
  | true => simp [isWordly, hd] at h
theorem wordly_hex {c : UInt8} (h : isWordly c = false) : isHex c = false := by
  cases hd : isHex c with
  | false => rfl
  | true =>
    exfalso
    unfold isHex hexVal at hd
    simp only [isWordly, isLetter, Bool.or_eq_false_iff, beq_eq_false_iff_ne, Bool.and_eq_false_iff, decide_eq_false_iff_not] at h
    rw [if_neg (by rw [h.1.2]; simp)] at hd
    split at hd
    · omega
    · split at hd
      · omega
      · cases hd

theorem wAt_cut {l z : List UInt8} (hz : nonw z) {n : Nat} (hn : n ≤ l.length) : wAt (l.take n ++ z) n = false := by
  unfold wAt
  rw [List.getElem?_append_right (by rw [List.length_take]; omega), List.length_take, Nat.min_eq_left hn, Nat.sub_self]
  cases z with
  | nil => rfl
  | cons c z => exact hz c rfl
theorem numAt_cut {l z : List UInt8} {v : Int} {n : Nat} (h : numAt l = some (v, n)) (hz : nonw z) (hl : ∀ c, l.head? = some c → isDigit c = true ∨ c.toNat = 45) (hn : 1 ≤ n ∧ n ≤ l.length) : numAt (l.take n ++ z) = some (v, n) := by
  cases l with
  | nil => simp at hn; omega
  | cons c r =>
  have hzd : ∀ c, z.head? = some c → isDigit c = false := fun c h => wordly_digit (hz c h)
  have hzh : ∀ c, z.head? = some c → isHex c = false := fun c h => wordly_hex (hz c h)
  unfold numAt at h
  split at h
  · rename_i h0
    split at h
    · rename_i h1
      simp only [Option.some.injEq, Prod.mk.injEq] at h
      obtain ⟨hv, rfl⟩ := h
      obtain ⟨hc, hx⟩ := h0
      cases r with
      | nil => simp at hx
      | cons x r =>
        simp only [List.drop_succ_cons, List.drop_zero] at h1 hv hn ⊢
        have e : (c :: x :: r).take (runLen isHex r + 2) ++ z = c :: x :: (r.take (runLen isHex r) ++ z) := rfl
        rw [e]
        unfold numAt
        simp only [List.drop_succ_cons, List.drop_zero]
        rw [runLen_cut hzh, if_pos ⟨hc, by simpa using hx⟩, if_pos h1, take_app (runLen_le _ _), hv]
    · cases h
  · rename_i h0
    split at h
    · rename_i h45
      split at h
      · rename_i h1
        simp only [Option.some.injEq, Prod.mk.injEq] at h
        obtain ⟨hv, rfl⟩ := h
        simp only [List.drop_succ_cons, List.drop_zero] at h1 hv hn ⊢
        have e : (c :: r).take (runLen isDigit r + 1) ++ z = c :: (r.take (runLen isDigit r) ++ z) := rfl
        rw [e]
        unfold numAt
        simp only [List.drop_succ_cons, List.drop_zero]
        rw [if_neg (by intro h; have := h45.symm.trans h.1; simp at this), if_pos (show (c :: (r.take (runLen isDigit r) ++ z)).head? = some 45 from h45), runLen_cut hzd, take_app (runLen_le _ _), if_pos h1, hv]
      · cases h
    · rename_i h45
      split at h
      · rename_i h1
        simp only [Option.some.injEq, Prod.mk.injEq] at h
        obtain ⟨hv, hne⟩ := h
        have hc := hl c rfl
        have hcd : isDigit c = true := by
          rcases hc with h | h
          · exact h
          · exfalso; apply h45; simp only [List.head?_cons, Option.some.injEq]; exact UInt8.toNat_inj.1 (by simpa using h)
        have hrl : runLen isDigit (c :: r) = runLen isDigit r + 1 := by rw [runLen, if_pos hcd]
        unfold numAt
        have hh : (List.take n (c :: r) ++ z).head? = some c := by
          obtain ⟨m, rfl⟩ : ∃ m, n = m + 1 := ⟨n - 1, by omega⟩
          rfl
        rw [hh]
        rw [if_neg (by
          rintro ⟨h3, h4⟩
          apply h0
          refine ⟨h3, ?_⟩
          by_cases hn2 : 2 ≤ n
          · rw [List.getElem?_append_left (by rw [List.length_take]; omega), List.getElem?_take, if_pos (by omega)] at h4
            exact h4
          · exfalso
            rw [List.getElem?_append_right (by rw [List.length_take]; omega), List.length_take, show 1 - min n (c :: r).length = 0 from by simp; omega] at h4
            have := hz 120 (by rw [List.head?_eq_getElem?]; exact h4)
            exact absurd this (by decide)), if_neg (show ¬ (some c = some 45) from h45)]
        subst hne
        rw [runLen_cut hzd, take_app (runLen_le _ _), if_pos h1, hv]
      · cases h
theorem numTok_some {l : List UInt8} {v : Int} {n : Nat} (h : numTokAt l = some (v, n)) : numAt l = some (v, n) ∧ wAt l n = false := by
  unfold numTokAt at h
  split at h
  · cases h
  · rename_i v' n' h4
    split at h
    · cases h
    · rename_i hw
      cases h
      exact ⟨h4, by simpa using hw⟩
/-- A token, cut off, is the same token, whatever follows that may not stand in a name. -/
theorem tokAt_cut {c : UInt8} {r z : List UInt8} {k : Nat} {t : List UInt8} {v : Int} {n : Nat} (h : tokAt (c :: r) = (0, k, t, v, n)) (hz : k ≤ 2 → nonw z) : 1 ≤ n ∧ n ≤ (c :: r).length ∧ tokAt ((c :: r).take n ++ z) = (0, k, t, v, n) := by
  simp only [tokAt] at h
  split at h
  · rename_i hl
    simp only [Prod.mk.injEq, true_and] at h
    obtain ⟨rfl, rfl, rfl, hne⟩ := h
    have hz := hz (by omega)
    have hzw : ∀ c, z.head? = some c → isWordly c = false := hz
    have hw : isWordly c = true := by simp [isWordly, hl]
    have hrl : runLen isWordly (c :: r) = runLen isWordly r + 1 := by rw [runLen, if_pos hw]
    have hle := runLen_le isWordly (c :: r)
    subst hne
    refine ⟨by omega, hle, ?_⟩
    have e1 := runLen_cut hzw (c :: r)
    have e2 := take_app (z := z) (runLen_le isWordly (c :: r))
    have e3 : (c :: r).take (runLen isWordly (c :: r)) ++ z = c :: (r.take (runLen isWordly r) ++ z) := by rw [hrl]; rfl
    rw [e3] at e1 e2 ⊢
    simp only [tokAt]
    rw [if_pos hl, e1, e2]
  · rename_i hl
    split at h
    · rename_i hd
      cases hn : numTokAt (c :: r) with
      | none => rw [hn] at h; simp at h
      | some p =>
        obtain ⟨v', n'⟩ := p
        rw [hn] at h
        simp only [Prod.mk.injEq, true_and] at h
        obtain ⟨rfl, rfl, rfl, rfl⟩ := h
        have hz := hz (by omega)
        obtain ⟨h1, h2⟩ := numTok_some hn
        have hp := numAt_pos (hd.imp id (fun h => h.1)) h1
        have h3 := numAt_cut h1 hz (fun c' hc' => by cases hc'; exact hd.imp id (fun h => h.1)) hp
        have h4 : numTokAt ((c :: r).take n' ++ z) = some (v', n') := by unfold numTokAt; rw [h3]; simp [wAt_cut hz hp.2]
        refine ⟨hp.1, hp.2, ?_⟩
        have hd2 : isDigit c = true ∨ (c.toNat = 45 ∧ ∃ d ∈ (r.take (n' - 1) ++ z).head?, isDigit d = true) := by
          rcases hd with hd | ⟨hc, d, hd, hdd⟩
          · exact .inl hd
          · refine .inr ⟨hc, d, ?_, hdd⟩
            cases r with
            | nil => cases hd
            | cons x r =>
              simp only [List.head?_cons, Option.mem_def, Option.some.injEq] at hd
              subst hd
              have hn2 : 2 ≤ n' := by
                unfold numAt at h1
                have hc2 : c = 45 := UInt8.toNat_inj.1 (by simpa using hc)
                rw [if_neg (by rintro ⟨h5, _⟩; simp only [List.head?_cons, Option.some.injEq] at h5; rw [h5] at hc2; exact absurd hc2 (by decide)), if_pos (by simp [hc2])] at h1
                split at h1
                · simp only [Option.some.injEq, Prod.mk.injEq, List.drop_succ_cons, List.drop_zero] at h1
                  have := h1.2
                  rw [runLen, if_pos hdd] at this
                  omega
                · cases h1
              obtain ⟨m, rfl⟩ : ∃ m, n' = m + 2 := ⟨n' - 2, by omega⟩
              rfl
        have e : (c :: r).take n' ++ z = c :: (r.take (n' - 1) ++ z) := by
          obtain ⟨m, rfl⟩ : ∃ m, n' = m + 1 := ⟨n' - 1, by omega⟩
          rfl
        rw [e] at h4 ⊢
        simp only [tokAt]
        rw [if_neg hl, if_pos hd2, h4]
    · rename_i hd
      have hone : ∀ k', (0, k', ([] : List UInt8), (0 : Int), 1) = (0, k, t, v, n) → (c.toNat = 44 ∧ k' = 3 ∨ c.toNat = 58 ∧ k' = 4 ∨ c.toNat = 61 ∧ k' = 5 ∨ c.toNat = 10 ∧ k' = 6) → 1 ≤ n ∧ n ≤ (c :: r).length ∧ tokAt ((c :: r).take n ++ z) = (0, k, t, v, n) := by
        intro k' he hc
        simp only [Prod.mk.injEq, true_and] at he
        obtain ⟨rfl, rfl, rfl, rfl⟩ := he
        refine ⟨Nat.le_refl _, by simp, ?_⟩
        show tokAt (c :: z) = _
        simp only [tokAt]
        rw [if_neg hl, if_neg (by
          rintro (h3 | ⟨h3, _⟩)
          · exact hd (.inl h3)
          · omega)]
        rcases hc with ⟨h1, rfl⟩ | ⟨h1, rfl⟩ | ⟨h1, rfl⟩ | ⟨h1, rfl⟩ <;> simp [h1]
      split at h
      · rename_i h1; exact hone 3 h (.inl ⟨h1, rfl⟩)
      split at h
      · rename_i h1; exact hone 4 h (.inr (.inl ⟨h1, rfl⟩))
      split at h
      · rename_i h1; exact hone 5 h (.inr (.inr (.inl ⟨h1, rfl⟩)))
      split at h
      · rename_i h1; exact hone 6 h (.inr (.inr (.inr ⟨h1, rfl⟩)))
      · simp at h
/-- Behind a name or a number stands nothing that may stand in a name. -/
theorem tokAt_next {l : List UInt8} {k : Nat} {t : List UInt8} {v : Int} {n : Nat} (h : tokAt l = (0, k, t, v, n)) (hk : k ≤ 2) : nonw (l.drop n) := by
  intro x hx
  rw [List.head?_drop] at hx
  cases l with
  | nil => simp at hx
  | cons c r =>
    simp only [tokAt] at h
    split at h
    · simp only [Prod.mk.injEq, true_and] at h
      obtain ⟨_, _, _, hne⟩ := h
      subst hne
      exact runLen_next _ _ hx
    · split at h
      · cases hn : numTokAt (c :: r) with
        | none => rw [hn] at h; simp at h
        | some p =>
          obtain ⟨v', n'⟩ := p
          rw [hn] at h
          simp only [Prod.mk.injEq, true_and] at h
          obtain ⟨_, _, _, rfl⟩ := h
          have h2 := (numTok_some hn).2
          unfold wAt at h2
          rw [hx] at h2
          exact h2
      · repeat (first | (split at h; (simp only [Prod.mk.injEq, true_and] at h; omega)) | (simp at h; done))
/-- The bytes of a number. -/
theorem numAt_bytes {l : List UInt8} {v : Int} {n : Nat} (h : numAt l = some (v, n)) : ∀ c ∈ l.take n, isWordly c = true ∨ c.toNat = 45 := by
  have hd : ∀ c, isDigit c = true → isWordly c = true := fun c h => by simp [isWordly, h]
  have hx : ∀ c, isHex c = true → isWordly c = true := fun c h => by
    cases hw : isWordly c with
    | true => rfl
    | false => rw [wordly_hex hw] at h; cases h
  intro c hc
  unfold numAt at h
  split at h
  · rename_i h0
    split at h
    · simp only [Option.some.injEq, Prod.mk.injEq] at h
      obtain ⟨_, rfl⟩ := h
      match l, h0 with
      | x :: y :: r, h0 =>
        simp only [List.drop_succ_cons, List.drop_zero, List.take_succ_cons, List.mem_cons] at hc
        obtain ⟨h1, h2⟩ := h0
        simp only [List.head?_cons, Option.some.injEq, List.getElem?_cons_succ, List.getElem?_cons_zero] at h1 h2
        rcases hc with rfl | rfl | hc
        · rw [h1]; exact .inl (by decide)
        · rw [h2]; exact .inl (by decide)
        · exact .inl (hx c (runLen_all _ _ c hc))
      | [x], h0 => simp at h0
      | [], h0 => simp at h0
    · cases h
  · split at h
    · rename_i h45
      split at h
      · simp only [Option.some.injEq, Prod.mk.injEq] at h
        obtain ⟨_, rfl⟩ := h
        cases l with
        | nil => simp at hc
        | cons x r =>
          simp only [List.drop_succ_cons, List.drop_zero, List.take_succ_cons, List.mem_cons] at hc
          rcases hc with rfl | hc
          · simp only [List.head?_cons, Option.some.injEq] at h45
            rw [h45]; exact .inr rfl
          · exact .inl (hd c (runLen_all _ _ c hc))
      · cases h
    · split at h
      · simp only [Option.some.injEq, Prod.mk.injEq] at h
        obtain ⟨_, rfl⟩ := h
        exact .inl (hd c (runLen_all _ _ c hc))
      · cases h
theorem wordly_ne10 {c : UInt8} (h : isWordly c = true ∨ c.toNat = 45) : c.toNat ≠ 10 := by
  intro e
  rcases h with h | h
  · simp [isWordly, isLetter, isDigit, e] at h
  · omega

theorem act1_tokAt {c : UInt8} {r : List UInt8} {k : Nat} {t : List UInt8} {v : Int} {n : Nat} (h : act1 (c :: r) = .tok k t v n) : isBlank c = false ∧ c.toNat ≠ 59 ∧ tokAt (c :: r) = (0, k, t, v, n) := by
  unfold act1 at h
  simp only [List.head?_cons] at h
  split at h
  · cases h
  · split at h
    · cases h
    · split at h
      · cases h
      · rename_i hb hc he
        simp only [Act1.tok.injEq] at h
        obtain ⟨rfl, rfl, rfl, rfl⟩ := h
        simp only [ne_eq, Classical.not_not] at he
        exact ⟨by simpa using hb, hc, by rw [← he]⟩
theorem act1_of_tokAt {c : UInt8} {r : List UInt8} {k : Nat} {t : List UInt8} {v : Int} {n : Nat} (hb : isBlank c = false) (hc : c.toNat ≠ 59) (h : tokAt (c :: r) = (0, k, t, v, n)) : act1 (c :: r) = .tok k t v n := by
  unfold act1
  simp only [List.head?_cons]
  rw [if_neg (by rw [hb]; simp), if_neg hc, if_neg (by rw [h]; simp), h]
/-- A token at a place, cut off, whatever follows. -/
theorem act1_cut {d z : List UInt8} {k : Nat} {t : List UInt8} {v : Int} {n : Nat} (h : act1 d = .tok k t v n) (hk : k ≠ 7) (hz : k ≤ 2 → nonw z) : act1 (d.take n ++ z) = .tok k t v n := by
  cases d with
  | nil => simp [act1] at h; omega
  | cons c r =>
    obtain ⟨hb, hc, ht⟩ := act1_tokAt h
    obtain ⟨h1, h2, h3⟩ := tokAt_cut ht hz
    obtain ⟨m, rfl⟩ : ∃ m, n = m + 1 := ⟨n - 1, by omega⟩
    exact act1_of_tokAt hb hc h3
theorem act1_next {d : List UInt8} {k : Nat} {t : List UInt8} {v : Int} {n : Nat} (h : act1 d = .tok k t v n) (hk : k ≤ 2) : nonw (d.drop n) := by
  cases d with
  | nil => simp [act1] at h; omega
  | cons c r => exact tokAt_next (act1_tokAt h).2.2 hk
/-- What follows may be another, if what follows a name or a number begins as it should. -/
theorem act1_app {d z : List UInt8} {k : Nat} {t : List UInt8} {v : Int} {n : Nat} (h : act1 d = .tok k t v n) (hk : k ≠ 7) (hz : nonw z) : act1 (d ++ z) = .tok k t v n ∧ n ≤ d.length := by
  have hn : n ≤ d.length := by
    rcases act1_tok h with ⟨_, h1, _⟩ | h1
    · exact absurd h1 hk
    · exact h1.2.2.2.2
  refine ⟨?_, hn⟩
  have := act1_cut (z := d.drop n ++ z) h hk (fun hk2 => by
    have h1 := act1_next h hk2
    cases hd : d.drop n with
    | nil => exact hz
    | cons x y => rw [hd] at h1; exact fun c hc => h1 c hc)
  rwa [← List.append_assoc, List.take_append_drop] at this
theorem act1_tok_bytes {d : List UInt8} {k : Nat} {t : List UInt8} {v : Int} {n : Nat} (h : act1 d = .tok k t v n) (hk : k ≠ 7) : (k = 6 ∧ n = 1 ∧ ∃ r, d = 10 :: r) ∨ (k ≠ 6 ∧ ∀ c ∈ d.take n, c.toNat ≠ 10) := by
  cases d with
  | nil => simp [act1] at h; omega
  | cons c r =>
    obtain ⟨hb, hc, ht⟩ := act1_tokAt h
    simp only [tokAt] at ht
    split at ht
    · simp only [Prod.mk.injEq, true_and] at ht
      obtain ⟨rfl, _, _, hne⟩ := ht
      subst hne
      exact .inr ⟨by omega, fun x hx => wordly_ne10 (.inl (runLen_all _ _ x hx))⟩
    · split at ht
      · cases hn : numTokAt (c :: r) with
        | none => rw [hn] at ht; simp at ht
        | some p =>
          obtain ⟨v', n'⟩ := p
          rw [hn] at ht
          simp only [Prod.mk.injEq, true_and] at ht
          obtain ⟨rfl, _, _, rfl⟩ := ht
          exact .inr ⟨by omega, fun x hx => wordly_ne10 (numAt_bytes (numTok_some hn).1 x hx)⟩
      · have hone : ∀ k', k' ≠ 6 → c.toNat ≠ 10 → (0, k', ([] : List UInt8), (0 : Int), 1) = (0, k, t, v, n) → k ≠ 6 ∧ ∀ x ∈ (c :: r).take n, x.toNat ≠ 10 := by
          intro k' hk' hc' he
          simp only [Prod.mk.injEq, true_and] at he
          obtain ⟨rfl, _, _, rfl⟩ := he
          refine ⟨hk', fun x hx => ?_⟩
          simp only [List.take_succ_cons, List.take_zero, List.mem_singleton] at hx
          rw [hx]; exact hc'
        split at ht
        · exact .inr (hone 3 (by omega) (by omega) ht)
        split at ht
        · exact .inr (hone 4 (by omega) (by omega) ht)
        split at ht
        · exact .inr (hone 5 (by omega) (by omega) ht)
        split at ht
        · rename_i h10
          simp only [Prod.mk.injEq, true_and] at ht
          obtain ⟨rfl, _, _, rfl⟩ := ht
          exact .inl ⟨rfl, rfl, r, by rw [show c = 10 from UInt8.toNat_inj.1 (by simpa using h10)]⟩
        · simp at ht
theorem act1_pass_form {d : List UInt8} {n : Nat} (h : act1 d = .pass n) : ∃ c r, d = c :: r ∧ ((isBlank c = true ∧ n = 1) ∨ (isBlank c = false ∧ c.toNat = 59 ∧ n = runLen notLf d)) := by
  cases d with
  | nil => simp [act1] at h
  | cons c r =>
    refine ⟨c, r, rfl, ?_⟩
    unfold act1 at h
    simp only [List.head?_cons] at h
    split at h
    · rename_i hb; simp only [Act1.pass.injEq] at h; exact .inl ⟨hb, h.symm⟩
    · split at h
      · rename_i hb hc; simp only [Act1.pass.injEq] at h; exact .inr ⟨by simpa using hb, hc, h.symm⟩
      · split at h <;> cases h
theorem act1_pass_bytes {d : List UInt8} {n : Nat} (h : act1 d = .pass n) : ∀ c ∈ d.take n, c.toNat ≠ 10 := by
  obtain ⟨c, r, rfl, h1⟩ := act1_pass_form h
  rcases h1 with ⟨hb, rfl⟩ | ⟨_, _, rfl⟩
  · intro x hx
    simp only [List.take_succ_cons, List.take_zero, List.mem_singleton] at hx
    subst hx
    intro e
    simp [isBlank, e] at hb
  · intro x hx e
    have := runLen_all _ _ x hx
    simp [notLf, e] at this
theorem act1_blank {c : UInt8} {r : List UInt8} (h : isBlank c = true) : act1 (c :: r) = .pass 1 := by unfold act1; simp [h]
theorem act1_remark {c : UInt8} {r : List UInt8} (h : c.toNat = 59) : act1 (c :: r) = .pass (runLen notLf (c :: r)) := by
  unfold act1
  simp only [List.head?_cons]
  rw [if_neg (by simp [isBlank, h]), if_pos h]
/-- Blanks and remarks are passed over alike, if a line's end follows. -/
theorem act1_pass_lf {d r : List UInt8} {n : Nat} (h : act1 d = .pass n) : act1 (d ++ 10 :: r) = .pass n := by
  obtain ⟨c, q, rfl, h1⟩ := act1_pass_form h
  rcases h1 with ⟨hb, rfl⟩ | ⟨_, h59, rfl⟩
  · exact act1_blank hb
  · rw [List.cons_append, act1_remark h59]
    congr 1
    have key : ∀ l : List UInt8, runLen notLf (l ++ 10 :: r) = runLen notLf l := fun l => by
      induction l with
      | nil => rfl
      | cons x l ih => rw [List.cons_append, runLen, runLen, ih]
    exact key (c :: q)
end Go.AB
