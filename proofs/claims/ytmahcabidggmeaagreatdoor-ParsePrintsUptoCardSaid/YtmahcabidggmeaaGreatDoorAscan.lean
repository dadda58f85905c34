/- The tokens of a source, plain. No program in sight. -/
import Derived.Test.YtmahcabidggmeaaGreatDoorAplain
namespace Go.AB
open Go.RowKit

structure Tok where
  kind : Nat
  text : List UInt8
  num : Int
  line : Nat
  col : Nat

/-- What is to be done at a place: pass some bytes over, a fault, or a token of n bytes. -/
inductive Act1 where
  | pass (n : Nat)
  | fault (e : Nat)
  | tok (k : Nat) (t : List UInt8) (v : Int) (n : Nat)
def act1 (d : List UInt8) : Act1 :=
  match d.head? with
  | some c =>
    if isBlank c then .pass 1
    else if c.toNat = 59 then .pass (runLen notLf d)
    else if (tokAt d).1 ≠ 0 then .fault (tokAt d).1 else .tok (tokAt d).2.1 (tokAt d).2.2.1 (tokAt d).2.2.2.1 (tokAt d).2.2.2.2
  | none => .tok 7 [] 0 0

/-- The tokens from a place on, and the fault (its number, line and column). -/
def scan : Nat → List UInt8 → Nat → Nat → List Tok × (Nat × Nat × Nat)
  | 0, _, _, _ => ([], (0, 0, 0))
  | f + 1, d, ln, col =>
    match act1 d with
    | .pass n => scan f (d.drop n) ln (col + n)
    | .fault e => ([], (e, ln, col))
    | .tok k t v n =>
      if k = 7 then ([⟨7, [], 0, ln, col⟩], (0, 0, 0))
      else if k = 6 then (⟨k, t, v, ln, col⟩ :: (scan f (d.drop n) (ln + 1) 1).1, (scan f (d.drop n) (ln + 1) 1).2)
      else (⟨k, t, v, ln, col⟩ :: (scan f (d.drop n) ln (col + n)).1, (scan f (d.drop n) ln (col + n)).2)
def lexB (L : List UInt8) : List Tok × (Nat × Nat × Nat) := if 1048576 < L.length then ([], (3, 0, 0)) else scan (L.length + 1) L 1 1

theorem runLen_pos {p : UInt8 → Bool} {c : UInt8} {r : List UInt8} (h : p c = true) : 1 ≤ runLen p (c :: r) := by rw [runLen, if_pos h]; omega
theorem numAt_pos {c : UInt8} {r : List UInt8} (hd : isDigit c = true ∨ c.toNat = 45) {v : Int} {n : Nat} (h : numAt (c :: r) = some (v, n)) : 1 ≤ n ∧ n ≤ (c :: r).length := by
  unfold numAt at h
  split at h
  · rename_i h0
    split at h
    · rename_i h1
      simp only [Option.some.injEq, Prod.mk.injEq] at h
      obtain ⟨_, rfl⟩ := h
      have h2 := runLen_le isHex ((c :: r).drop 2)
      simp only [List.length_drop, List.length_cons] at h2
      have h3 : 2 ≤ (c :: r).length := by
        have h4 := h0.2
        by_cases h5 : 1 < (c :: r).length
        · omega
        · rw [List.getElem?_eq_none (by omega)] at h4; cases h4
      simp only [List.length_cons] at h3 ⊢
      omega
    · cases h
  · split at h
    · split at h
      · simp only [Option.some.injEq, Prod.mk.injEq] at h
        obtain ⟨_, rfl⟩ := h
        have h2 := runLen_le isDigit ((c :: r).drop 1)
        simp only [List.length_drop, List.length_cons] at h2 ⊢
        omega
      · cases h
    · rename_i h0 h1
      split at h
      · simp only [Option.some.injEq, Prod.mk.injEq] at h
        obtain ⟨_, rfl⟩ := h
        refine ⟨?_, runLen_le _ _⟩
        rcases hd with hd | hd
        · exact runLen_pos hd
        · exfalso
          apply h1
          simp only [List.head?_cons, Option.some.injEq]
          exact UInt8.toNat_inj.1 (by simpa using hd)
      · cases h
/-- A token that is no end has a byte or more. -/
theorem act1_tok {d : List UInt8} {k : Nat} {t : List UInt8} {v : Int} {n : Nat} (h : act1 d = .tok k t v n) : (d = [] ∧ k = 7 ∧ t = [] ∧ v = 0 ∧ n = 0) ∨ (d ≠ [] ∧ 1 ≤ k ∧ k ≤ 6 ∧ 1 ≤ n ∧ n ≤ d.length) := by
  cases d with
  | nil => simp [act1] at h; exact .inl ⟨rfl, h.1.symm, h.2.1, h.2.2.1.symm, h.2.2.2.symm⟩
  | cons c r =>
    refine .inr ⟨by simp, ?_⟩
    unfold act1 at h
    simp only [List.head?_cons] at h
    split at h
    · cases h
    split at h
    · cases h
    split at h
    · cases h
    rename_i h1 h2 h3
    simp only [Act1.tok.injEq] at h
    obtain ⟨rfl, rfl, rfl, rfl⟩ := h
    simp only [ne_eq, Classical.not_not] at h3
    simp only [tokAt] at h3 ⊢
    split
    · rename_i hl
      refine ⟨by simp, by simp, ?_, runLen_le _ _⟩
      exact runLen_pos (by simp [isWordly, hl])
    · rename_i hl
      rw [if_neg hl] at h3
      split
      · rename_i hd
        rw [if_pos hd] at h3
        cases hn : numTokAt (c :: r) with
        | none => rw [hn] at h3; simp at h3
        | some p =>
          obtain ⟨v, n⟩ := p
          have hn2 : numAt (c :: r) = some (v, n) := by
            unfold numTokAt at hn
            split at hn
            · cases hn
            · rename_i v' n' h4
              split at hn
              · cases hn
              · rw [h4]; exact hn
          have := numAt_pos (hd.imp id (fun h => h.1)) hn2
          simp only
          exact ⟨by omega, by omega, this⟩
      · rename_i hd
        rw [if_neg hd] at h3
        have hl1 : 1 ≤ (c :: r).length := by simp
        split
        · exact ⟨by simp, by simp, by simp, hl1⟩
        split
        · exact ⟨by simp, by simp, by simp, hl1⟩
        split
        · exact ⟨by simp, by simp, by simp, hl1⟩
        split
        · exact ⟨by simp, by simp, by simp, hl1⟩
        rename_i n1 n2 n3 n4
        rw [if_neg n1, if_neg n2, if_neg n3, if_neg n4] at h3
        simp at h3
theorem act1_pass {d : List UInt8} {n : Nat} (h : act1 d = .pass n) : 1 ≤ n ∧ n ≤ d.length := by
  cases d with
  | nil => simp [act1] at h
  | cons c r =>
    unfold act1 at h
    simp only [List.head?_cons] at h
    split at h
    · simp only [Act1.pass.injEq] at h; subst h; simp
    split at h
    · rename_i hc
      simp only [Act1.pass.injEq] at h
      subst h
      exact ⟨runLen_pos (by simp [notLf, hc]), runLen_le _ _⟩
    · split at h <;> cases h
theorem scan_fuel : ∀ f g d ln col, d.length < f → d.length < g → scan f d ln col = scan g d ln col
  | 0, _, d, _, _, h, _ => by omega
  | f + 1, 0, d, _, _, _, h => by omega
  | f + 1, g + 1, d, ln, col, hf, hg => by
    unfold scan
    cases ha : act1 d with
    | pass n =>
      have := act1_pass ha
      exact scan_fuel f g _ _ _ (by rw [List.length_drop]; omega) (by rw [List.length_drop]; omega)
    | fault e => rfl
    | tok k t v n =>
      simp only
      rcases act1_tok ha with ⟨h1, h2, _⟩ | ⟨h1, h2⟩
      · rw [if_pos h2, if_pos h2]
      · have e := fun ln col => scan_fuel f g (d.drop n) ln col (by rw [List.length_drop]; omega) (by rw [List.length_drop]; omega)
        rw [e, e]
/-- The tokens from a place on, whatever the fuel. -/
def scanD (d : List UInt8) (ln col : Nat) : List Tok × (Nat × Nat × Nat) := scan (d.length + 1) d ln col
theorem scanD_eq (d : List UInt8) (ln col : Nat) : scanD d ln col = match act1 d with
    | .pass n => scanD (d.drop n) ln (col + n)
    | .fault e => ([], (e, ln, col))
    | .tok k t v n =>
      if k = 7 then ([⟨7, [], 0, ln, col⟩], (0, 0, 0))
      else if k = 6 then (⟨k, t, v, ln, col⟩ :: (scanD (d.drop n) (ln + 1) 1).1, (scanD (d.drop n) (ln + 1) 1).2)
      else (⟨k, t, v, ln, col⟩ :: (scanD (d.drop n) ln (col + n)).1, (scanD (d.drop n) ln (col + n)).2) := by
  unfold scanD
  rw [scan]
  cases ha : act1 d with
  | pass n =>
    have := act1_pass ha
    exact scan_fuel _ _ _ _ _ (by rw [List.length_drop]; omega) (by omega)
  | fault e => rfl
  | tok k t v n =>
    simp only
    rcases act1_tok ha with ⟨h1, h2, _⟩ | ⟨h1, h2⟩
    · rw [if_pos h2, if_pos h2]
    · have e := fun ln col => scan_fuel d.length ((d.drop n).length + 1) (d.drop n) ln col (by rw [List.length_drop]; omega) (by omega)
      rw [e, e]
theorem lexB_eq {L : List UInt8} (h : L.length ≤ 1048576) : lexB L = scanD L 1 1 := by unfold lexB; rw [if_neg (by omega)]; rfl
/-- The tokens are no more than the bytes and one. -/
theorem scan_len : ∀ f d ln col, d.length < f → (scan f d ln col).1.length ≤ d.length + 1
  | 0, d, _, _, h => by omega
  | f + 1, d, ln, col, hf => by
    unfold scan
    cases ha : act1 d with
    | pass n =>
      have := act1_pass ha
      have h := scan_len f (d.drop n) ln (col + n) (by rw [List.length_drop]; omega)
      rw [List.length_drop] at h
      simp only
      omega
    | fault e => simp
    | tok k t v n =>
      simp only
      rcases act1_tok ha with ⟨h1, h2, _⟩ | ⟨h1, h2⟩
      · rw [if_pos h2]; simp
      · have h := fun ln col => scan_len f (d.drop n) ln col (by rw [List.length_drop]; omega)
        have h3 := h (ln + 1) 1
        have h4 := h ln (col + n)
        rw [List.length_drop] at h3 h4
        split
        · simp
        split <;> simp only [List.length_cons] <;> omega
theorem scanD_len (d : List UInt8) (ln col : Nat) : (scanD d ln col).1.length ≤ d.length + 1 := scan_len _ _ _ _ (Nat.lt_succ_self _)
/-- Either there is a fault and no end among the tokens, or the last token is the end, and it alone. -/
theorem scan_end : ∀ f d ln col, d.length < f → ((scan f d ln col).2.1 ≠ 0 ∧ ∀ t ∈ (scan f d ln col).1, t.kind ≠ 7) ∨ ((scan f d ln col).2 = (0, 0, 0) ∧ ∃ l t, (scan f d ln col).1 = l ++ [t] ∧ t.kind = 7 ∧ ∀ u ∈ l, u.kind ≠ 7)
  | 0, d, _, _, h => by omega
  | f + 1, d, ln, col, hf => by
    unfold scan
    cases ha : act1 d with
    | pass n =>
      have := act1_pass ha
      exact scan_end f (d.drop n) ln (col + n) (by rw [List.length_drop]; omega)
    | fault e =>
      refine .inl ⟨?_, by simp⟩
      unfold act1 at ha
      split at ha
      · split at ha
        · cases ha
        split at ha
        · cases ha
        split at ha
        · rename_i h; cases ha; exact h
        · cases ha
      · cases ha
    | tok k t v n =>
      simp only
      rcases act1_tok ha with ⟨h1, h2, _⟩ | ⟨h1, h2⟩
      · rw [if_pos h2]; exact .inr ⟨rfl, [], _, rfl, rfl, by simp⟩
      · rw [if_neg (by omega)]
        have key : ∀ (p : List Tok × (Nat × Nat × Nat)) (x : Tok), x.kind ≠ 7 → ((p.2.1 ≠ 0 ∧ ∀ t ∈ p.1, t.kind ≠ 7) ∨ (p.2 = (0, 0, 0) ∧ ∃ l t, p.1 = l ++ [t] ∧ t.kind = 7 ∧ ∀ u ∈ l, u.kind ≠ 7)) →
            ((x :: p.1, p.2).2.1 ≠ 0 ∧ ∀ t ∈ (x :: p.1, p.2).1, t.kind ≠ 7) ∨ ((x :: p.1, p.2).2 = (0, 0, 0) ∧ ∃ l t, (x :: p.1, p.2).1 = l ++ [t] ∧ t.kind = 7 ∧ ∀ u ∈ l, u.kind ≠ 7) := by
          intro p x hx hp
          rcases hp with ⟨h3, h4⟩ | ⟨h3, l, t, h4, h5, h6⟩
          · exact .inl ⟨h3, fun t ht => by rcases List.mem_cons.1 ht with rfl | h; exact hx; exact h4 t h⟩
          · exact .inr ⟨h3, x :: l, t, by simp only [h4]; rfl, h5, fun u hu => by rcases List.mem_cons.1 hu with rfl | h; exact hx; exact h6 u h⟩
        split
        · exact key _ _ (by simp only; omega) (scan_end f (d.drop n) (ln + 1) 1 (by rw [List.length_drop]; omega))
        · exact key _ _ (by simp only; omega) (scan_end f (d.drop n) ln (col + n) (by rw [List.length_drop]; omega))
end Go.AB
