/- Where the tokens stand, and what stands between them. No program in sight. -/
import Derived.Test.YtppijmpdoejdmaaBlexed
namespace Go.AB
open Go.RowKit

/-- Places rise. -/
theorem pos_lt : ∀ (l : List UInt8) (p : Nat × Nat), l ≠ [] → p.1 < (pos p l).1 ∨ ((pos p l).1 = p.1 ∧ p.2 < (pos p l).2)
  | [], _, h => absurd rfl h
  | c :: l, p, _ => by
    show p.1 < (pos (adv p c) l).1 ∨ ((pos (adv p c) l).1 = p.1 ∧ p.2 < (pos (adv p c) l).2)
    have hl := pos_line l (adv p c)
    by_cases h10 : c.toNat = 10
    · have e : adv p c = (p.1 + 1, 1) := by unfold adv; rw [if_pos h10]
      rw [e] at hl ⊢
      simp only at hl
      exact .inl (by omega)
    · have e : adv p c = (p.1, p.2 + 1) := by unfold adv; rw [if_neg h10]
      rw [e] at hl ⊢
      by_cases hn : l = []
      · subst hn; exact .inr ⟨rfl, by show p.2 < p.2 + 1; omega⟩
      · rcases pos_lt l (p.1, p.2 + 1) hn with h | ⟨h1, h2⟩
        · exact .inl h
        · exact .inr ⟨h1, by simp only at h2; omega⟩
theorem pos_ne {L : List UInt8} {i j : Nat} (h : i < j) (hj : j ≤ L.length) (p : Nat × Nat) : pos p (L.take i) ≠ pos p (L.take j) := by
  have e : L.take j = L.take i ++ (L.drop i).take (j - i) := by
    rw [← List.take_append_drop i (L.take j), List.take_take, Nat.min_eq_left (by omega), List.drop_take]
  rw [e, pos_append]
  have hne : (L.drop i).take (j - i) ≠ [] := by
    intro h0
    have := congrArg List.length h0
    simp only [List.length_take, List.length_drop, List.length_nil] at this
    omega
  intro he
  rcases pos_lt _ (pos p (L.take i)) hne with h1 | ⟨h1, h2⟩
  · rw [← he] at h1; omega
  · rw [← he] at h2; omega
theorem pos_snoc {L : List UInt8} {k : Nat} (h : k < L.length) (p : Nat × Nat) : pos p (L.take (k + 1)) = adv (pos p (L.take k)) L[k] := by
  rw [take_snoc _ _ h, pos_append]; rfl

/-- Blanks, then, maybe, a remark up to the end. -/
def gapB : List UInt8 → Bool
  | [] => true
  | c :: l => if c.toNat = 59 then l.all notLf else isBlank c && gapB l

/-- The first token of a source: what stands ahead of it, and what follows. -/
theorem Lexed.head {d : List UInt8} {p : Nat × Nat} {ts : List Tok} (h : Lexed d p ts) : ∃ g, g ≤ d.length ∧ gapB (d.take g) = true ∧
    ((d.drop g = [] ∧ ts = [⟨7, [], 0, (pos p (d.take g)).1, (pos p (d.take g)).2⟩]) ∨
     ∃ k t v n us, act1 (d.drop g) = .tok k t v n ∧ k ≠ 7 ∧ ts = ⟨k, t, v, (pos p (d.take g)).1, (pos p (d.take g)).2⟩ :: us ∧ Lexed (d.drop (g + n)) (pos p (d.take (g + n))) us) := by
  induction h with
  | stop p => exact ⟨0, Nat.le_refl _, rfl, .inl ⟨rfl, rfl⟩⟩
  | @tok d k t v n p ts h hk hr _ => exact ⟨0, Nat.zero_le _, rfl, .inr ⟨k, t, v, n, ts, h, hk, rfl, by rw [Nat.zero_add]; exact hr⟩⟩
  | @pass d n p ts h hr ih =>
    obtain ⟨c, r, rfl, hf⟩ := act1_pass_form h
    have hle := (act1_pass h).2
    rcases hf with ⟨hb, rfl⟩ | ⟨hb, h59, hn⟩
    · obtain ⟨g, hg, hgap, hrest⟩ := ih
      have e1 : (c :: r).drop 1 = r := rfl
      have e2 : ∀ q, (c :: r).take (q + 1) = c :: r.take q := fun q => rfl
      have e3 : ∀ q, (c :: r).drop (q + 1) = r.drop q := fun q => rfl
      have e4 : ∀ q, pos p ((c :: r).take (q + 1)) = pos (pos p ((c :: r).take 1)) (r.take q) := fun q => rfl
      rw [e1] at hg hgap hrest
      have e59 : ¬ c.toNat = 59 := by intro e; simp [isBlank, e] at hb
      refine ⟨g + 1, by simp only [List.length_cons]; omega, ?_, ?_⟩
      · rw [e2]
        simp only [gapB, if_neg e59, hb, Bool.true_and]
        exact hgap
      · rcases hrest with ⟨h1, h2⟩ | ⟨k, t, v, n, us, h1, h2, h3, h4⟩
        · exact .inl ⟨by rw [e3]; exact h1, by rw [e4]; exact h2⟩
        · refine .inr ⟨k, t, v, n, us, by rw [e3]; exact h1, h2, by rw [e4]; exact h3, ?_⟩
          rw [show g + 1 + n = (g + n) + 1 from by omega, e3, e4]
          exact h4
    · have hgap : gapB ((c :: r).take n) = true := by
        obtain ⟨m, rfl⟩ : ∃ m, n = m + 1 := ⟨n - 1, by have := (act1_pass h).1; omega⟩
        show gapB (c :: r.take m) = true
        simp only [gapB, if_pos h59]
        rw [List.all_eq_true]
        intro x hx
        refine runLen_all notLf (c :: r) x ?_
        rw [← hn]
        exact List.mem_cons_of_mem _ hx
      have hnext : ∀ x, ((c :: r).drop n).head? = some x → x.toNat = 10 := fun x hx => by
        rw [List.head?_drop, hn] at hx
        have := runLen_next _ _ hx
        simpa [notLf] using this
      refine ⟨n, hle, hgap, ?_⟩
      generalize he : (c :: r).drop n = d' at hr hnext
      generalize hq : pos p ((c :: r).take n) = q at hr
      cases hr with
      | stop => exact .inl ⟨rfl, rfl⟩
      | @pass _ n' _ _ h' hr' =>
        exfalso
        obtain ⟨x, y, rfl, hf'⟩ := act1_pass_form h'
        have h10 := hnext x rfl
        rcases hf' with ⟨hb', _⟩ | ⟨_, h59', _⟩
        · simp [isBlank, h10] at hb'
        · omega
      | @tok _ k t v n' _ us h' hk' hr' =>
        refine .inr ⟨k, t, v, n', us, h', hk', rfl, ?_⟩
        rw [← List.drop_drop, he, List.take_add, pos_append, he, hq]
        exact hr'

/-- The piece of a token, alone. -/
theorem piece_scan {d : List UInt8} {k : Nat} {t : List UInt8} {v : Int} {n : Nat} (h : act1 d = .tok k t v n) (hk : k ≠ 7) : ∃ x, scanD (d.take n) 1 1 = ([⟨k, t, v, 1, 1⟩, x], (0, 0, 0)) := by
  have hc := act1_cut (z := []) h hk (fun _ => nonw_nil)
  rw [List.append_nil] at hc
  have h1 : Lexed (d.take n) (1, 1) _ := .tok hc hk (by
    rw [List.take_take, Nat.min_self, List.drop_take, Nat.sub_self, List.take_zero]
    exact .stop _)
  exact ⟨_, h1.scan⟩
/-- How a number goes on. -/
def numCls (c : UInt8) : Bool := (48 ≤ c.toNat && c.toNat ≤ 57) || (97 ≤ c.toNat && c.toNat ≤ 102) || (65 ≤ c.toNat && c.toNat ≤ 70) || c.toNat == 120
theorem numCls_wordly {c : UInt8} (h : isWordly c = false) : numCls c = false := by
  simp only [isWordly, isLetter, isDigit, Bool.or_eq_false_iff, beq_eq_false_iff_ne, Bool.and_eq_false_iff, decide_eq_false_iff_not] at h
  simp only [numCls, Bool.or_eq_false_iff, beq_eq_false_iff_ne, Bool.and_eq_false_iff, decide_eq_false_iff_not]
  omega
theorem numCls_digit {c : UInt8} (h : isDigit c = true) : numCls c = true := by
  simp only [isDigit, Bool.and_eq_true, decide_eq_true_eq] at h
  simp [numCls, h.1, h.2]
theorem numCls_hex {c : UInt8} (h : isHex c = true) : numCls c = true := by
  unfold isHex hexVal at h
  split at h
  · exact numCls_digit (by assumption)
  · split at h
    · rename_i h1; simp [numCls, h1.1, h1.2]
    · split at h
      · rename_i h1; simp [numCls, h1.1, h1.2]
      · cases h
theorem numAt_cls {l : List UInt8} {v : Int} {n : Nat} (h : numAt l = some (v, n)) : ∀ c ∈ (l.take n).drop 1, numCls c = true := by
  intro c hc
  unfold numAt at h
  split at h
  · rename_i h0
    split at h
    · simp only [Option.some.injEq, Prod.mk.injEq] at h
      obtain ⟨_, rfl⟩ := h
      match l, h0 with
      | x :: y :: r, h0 =>
        simp only [List.drop_succ_cons, List.drop_zero, List.take_succ_cons, List.mem_cons] at hc
        obtain ⟨h1, h2⟩ := h0
        simp only [List.head?_cons, Option.some.injEq, List.getElem?_cons_succ, List.getElem?_cons_zero] at h1 h2
        rcases hc with rfl | hc
        · rw [h2]; decide
        · exact numCls_hex (runLen_all _ _ c hc)
      | [x], h0 => simp at h0
      | [], h0 => simp at h0
    · cases h
  · split at h
    · split at h
      · simp only [Option.some.injEq, Prod.mk.injEq] at h
        obtain ⟨_, rfl⟩ := h
        cases l with
        | nil => simp at hc
        | cons x r =>
          simp only [List.drop_succ_cons, List.drop_zero, List.take_succ_cons] at hc
          exact numCls_digit (runLen_all _ _ c hc)
      · cases h
    · split at h
      · simp only [Option.some.injEq, Prod.mk.injEq] at h
        obtain ⟨_, rfl⟩ := h
        exact numCls_digit (runLen_all _ _ c (List.mem_of_mem_drop hc))
      · cases h
/-- What the tokens' kinds say of their bytes. -/
theorem act1_kind {d : List UInt8} {k : Nat} {t : List UInt8} {v : Int} {n : Nat} (h : act1 d = .tok k t v n) (hk : k ≠ 7) :
    (k = 1 ∧ t.length = n) ∨ (k = 2 ∧ t = [] ∧ (∀ c ∈ (d.take n).drop 1, numCls c = true) ∧ (∀ c, d[n]? = some c → numCls c = false)) ∨ (3 ≤ k ∧ k ≤ 6 ∧ t = [] ∧ n = 1) := by
  have hnx := act1_next h
  cases d with
  | nil => simp [act1] at h; omega
  | cons c r =>
    obtain ⟨hb, hc, ht⟩ := act1_tokAt h
    simp only [tokAt] at ht
    split at ht
    · simp only [Prod.mk.injEq, true_and] at ht
      obtain ⟨rfl, rfl, _, hne⟩ := ht
      refine .inl ⟨rfl, ?_⟩
      rw [List.length_take, Nat.min_eq_left (runLen_le _ _)]
      exact hne
    · split at ht
      · cases hn : numTokAt (c :: r) with
        | none => rw [hn] at ht; simp at ht
        | some p =>
          obtain ⟨v', n'⟩ := p
          rw [hn] at ht
          simp only [Prod.mk.injEq, true_and] at ht
          obtain ⟨rfl, rfl, _, rfl⟩ := ht
          refine .inr (.inl ⟨rfl, rfl, numAt_cls (numTok_some hn).1, fun x hx => ?_⟩)
          exact numCls_wordly (hnx (by omega) x (by rw [List.head?_drop]; exact hx))
      · have hone : ∀ k', 3 ≤ k' → k' ≤ 6 → (0, k', ([] : List UInt8), (0 : Int), 1) = (0, k, t, v, n) → 3 ≤ k ∧ k ≤ 6 ∧ t = [] ∧ n = 1 := by
          intro k' h1 h2 he
          simp only [Prod.mk.injEq, true_and] at he
          obtain ⟨rfl, rfl, _, rfl⟩ := he
          exact ⟨h1, h2, rfl, rfl⟩
        split at ht
        · exact .inr (.inr (hone 3 (by omega) (by omega) ht))
        split at ht
        · exact .inr (.inr (hone 4 (by omega) (by omega) ht))
        split at ht
        · exact .inr (.inr (hone 5 (by omega) (by omega) ht))
        split at ht
        · exact .inr (.inr (hone 6 (by omega) (by omega) ht))
        · simp at ht
end Go.AB
