/- Numbers written in digits, plain: how they are read. No program in sight. -/
import Derived.Test.YtppijmpdoejdmaaDoorAscan
import Derived.Lib.ItoaNum
namespace Go.AB
open Go.RowKit
set_option linter.unusedVariables false

theorem isDigit_iff {c : UInt8} : isDigit c = true ↔ 48 ≤ c.toNat ∧ c.toNat ≤ 57 := by simp [isDigit]
theorem isDigit_not {c : UInt8} (h : isDigit c = true) : isLetter c = false ∧ isBlank c = false ∧ c.toNat ≠ 59 := by
  have := isDigit_iff.1 h
  refine ⟨?_, ?_, by omega⟩
  · simp only [isLetter, Bool.or_eq_false_iff, Bool.and_eq_false_iff, decide_eq_false_iff_not]; omega
  · simp only [isBlank, Bool.or_eq_false_iff, beq_eq_false_iff_ne]; omega
theorem runLen_app {p : UInt8 → Bool} : ∀ (D T : List UInt8), (∀ c ∈ D, p c = true) → (∀ c, T.head? = some c → p c = false) → runLen p (D ++ T) = D.length
  | [], [], _, _ => rfl
  | [], c :: r, _, h => by
    show runLen p (c :: r) = 0
    rw [runLen, if_neg (by rw [h c rfl]; simp)]
  | c :: r, T, hd, h => by
    show runLen p (c :: (r ++ T)) = _
    rw [runLen, if_pos (hd c (by simp)), runLen_app r T (fun x hx => hd x (by simp [hx])) h]
    rfl
/-- One number, and nothing else. -/
theorem scan_one {src : List UInt8} {v : Int} (h0 : ∃ c r, src = c :: r ∧ isLetter c = false ∧ isBlank c = false ∧ c.toNat ≠ 59 ∧ (isDigit c = true ∨ (c.toNat = 45 ∧ ∃ d ∈ r.head?, isDigit d = true))) (h : numTokAt src = some (v, src.length)) :
    scanD src 1 1 = ([⟨2, [], v, 1, 1⟩, ⟨7, [], 0, 1, 1 + src.length⟩], (0, 0, 0)) := by
  obtain ⟨c, r, hs, h1, h2, h3, h4⟩ := h0
  have ht : tokAt src = (0, 2, [], v, src.length) := by
    subst hs
    unfold tokAt
    simp only
    rw [if_neg (by rw [h1]; simp), if_pos h4, h]
  have ha : act1 src = .tok 2 [] v src.length := by
    unfold act1
    rw [ht]
    subst hs
    simp only [List.head?_cons]
    rw [if_neg (by rw [h2]; simp), if_neg h3]
    simp
  have hd : src.drop src.length = [] := List.drop_length
  have hz : scanD [] 1 (1 + src.length) = ([⟨7, [], 0, 1, 1 + src.length⟩], (0, 0, 0)) := by
    rw [scanD_eq]
    rfl
  rw [scanD_eq, ha]
  simp only
  rw [if_neg (by decide), if_neg (by decide), hd, hz]
theorem scan_bad {src : List UInt8} (h0 : ∃ c r, src = c :: r ∧ isLetter c = false ∧ isBlank c = false ∧ c.toNat ≠ 59 ∧ (isDigit c = true ∨ (c.toNat = 45 ∧ ∃ d ∈ r.head?, isDigit d = true))) (h : numTokAt src = none) :
    scanD src 1 1 = ([], (71, 1, 1)) := by
  obtain ⟨c, r, hs, h1, h2, h3, h4⟩ := h0
  have ht : tokAt src = (71, 0, [], 0, 0) := by
    subst hs
    unfold tokAt
    simp only
    rw [if_neg (by rw [h1]; simp), if_pos h4, h]
  have ha : act1 src = .fault 71 := by
    unfold act1
    rw [ht]
    subst hs
    simp only [List.head?_cons]
    rw [if_neg (by rw [h2]; simp), if_neg h3]
    simp
  rw [scanD_eq, ha]

/-- The sign. -/
def sgnL (b : Bool) : List UInt8 := if b then [45] else []
def sgnI (b : Bool) (u : Nat) : Int := if b then -(u : Int) else u
def maxU (b : Bool) : Nat := if b then 9223372036854775808 else 9223372036854775807
theorem sgn_start (b : Bool) {D : List UInt8} (hne : D ≠ []) (hd : ∀ c ∈ D, isDigit c = true) (T : List UInt8) : ∃ c r, sgnL b ++ D ++ T = c :: r ∧ isLetter c = false ∧ isBlank c = false ∧ c.toNat ≠ 59 ∧ (isDigit c = true ∨ (c.toNat = 45 ∧ ∃ d ∈ r.head?, isDigit d = true)) := by
  cases D with
  | nil => exact absurd rfl hne
  | cons d r =>
    have h := hd d (by simp)
    cases b with
    | false => exact ⟨d, r ++ T, rfl, (isDigit_not h).1, (isDigit_not h).2.1, (isDigit_not h).2.2, .inl h⟩
    | true => exact ⟨45, d :: (r ++ T), rfl, by decide, by decide, by decide, .inr ⟨by decide, d, by simp, h⟩⟩
theorem numAt_dec (b : Bool) {D T : List UInt8} (hne : D ≠ []) (hd : ∀ c ∈ D, isDigit c = true) (hT : ∀ c, T.head? = some c → isDigit c = false ∧ c.toNat ≠ 120) :
    numAt (sgnL b ++ D ++ T) = if decNat D ≤ maxU b then some (sgnI b (decNat D), (sgnL b ++ D).length) else none := by
  have hr : runLen isDigit (D ++ T) = D.length := runLen_app D T hd fun c hc => (hT c hc).1
  cases b with
  | true =>
    unfold numAt
    rw [if_neg (by rintro ⟨h, _⟩; simp only [sgnL, if_true, List.cons_append, List.nil_append, List.head?_cons, Option.some.injEq] at h; exact absurd h (by decide))]
    rw [if_pos (by rfl)]
    have e : (sgnL true ++ D ++ T).drop 1 = D ++ T := rfl
    rw [e, hr, List.take_left]
    by_cases h : decNat D ≤ 9223372036854775808
    · rw [if_pos h, if_pos (by exact h)]
      simp [sgnI, sgnL]
    · rw [if_neg h, if_neg (by exact h)]
  | false =>
    unfold numAt
    have e : sgnL false ++ D ++ T = D ++ T := rfl
    rw [e]
    rw [if_neg, if_neg, hr, List.take_left]
    · by_cases h : decNat D ≤ 9223372036854775807
      · rw [if_pos h, if_pos (by exact h)]
        simp [sgnI, sgnL]
      · rw [if_neg h, if_neg (by exact h)]
    · intro h
      cases D with
      | nil => exact hne rfl
      | cons d r =>
        simp only [List.cons_append, List.head?_cons, Option.some.injEq] at h
        have := isDigit_iff.1 (hd d (by simp))
        rw [h] at this
        have e45 : (45 : UInt8).toNat = 45 := rfl
        omega
    · rintro ⟨_, h⟩
      cases D with
      | nil => exact hne rfl
      | cons d r =>
        have e120 : (120 : UInt8).toNat = 120 := rfl
        cases r with
        | nil =>
          simp only [List.cons_append, List.nil_append, List.getElem?_cons_succ] at h
          have := (hT 120 (by rw [List.head?_eq_getElem?]; exact h)).2
          exact this rfl
        | cons d2 r2 =>
          simp only [List.cons_append, List.getElem?_cons_succ, List.getElem?_cons_zero, Option.some.injEq] at h
          have := isDigit_iff.1 (hd d2 (by simp))
          rw [h] at this
          omega
theorem numTok_dec (b : Bool) {D : List UInt8} (hne : D ≠ []) (hd : ∀ c ∈ D, isDigit c = true) : numTokAt (sgnL b ++ D) = if decNat D ≤ maxU b then some (sgnI b (decNat D), (sgnL b ++ D).length) else none := by
  have h := numAt_dec b (T := []) hne hd (fun c hc => by cases hc)
  rw [List.append_nil] at h
  unfold numTokAt
  rw [h]
  by_cases hf : decNat D ≤ maxU b
  · rw [if_pos hf]
    simp only
    rw [if_neg]
    unfold wAt
    rw [List.getElem?_eq_none (Nat.le_refl _)]
    simp
  · rw [if_neg hf]
theorem numTok_behind (b : Bool) {D : List UInt8} (hne : D ≠ []) (hd : ∀ c ∈ D, isDigit c = true) : numTokAt (sgnL b ++ D ++ [95]) = none := by
  have h := numAt_dec b (T := [95]) hne hd (fun c hc => by
    simp only [List.head?_cons, Option.some.injEq] at hc
    subst hc
    exact ⟨by decide, by decide⟩)
  unfold numTokAt
  rw [h]
  by_cases hf : decNat D ≤ maxU b
  · rw [if_pos hf]
    simp only
    rw [if_pos]
    unfold wAt
    rw [List.getElem?_append_right (Nat.le_refl _), Nat.sub_self]
    rfl
  · rw [if_neg hf]

/-! The digits. -/
theorem dg_nat (d : Nat) (h : d < 10) : (UInt8.ofNat (48 + d)).toNat = 48 + d := by rw [UInt8.toNat_ofNat']; omega
theorem dec_small {u : Nat} (h : u < 10) : Lib.decDigits u = [UInt8.ofNat (48 + u)] := by rw [Lib.decDigits, dif_pos h]
theorem dec_big {u : Nat} (h : ¬ u < 10) : Lib.decDigits u = Lib.decDigits (u / 10) ++ [UInt8.ofNat (48 + u % 10)] := by rw [Lib.decDigits, dif_neg h]
theorem dec_ne (u : Nat) : Lib.decDigits u ≠ [] := by
  by_cases h : u < 10
  · rw [dec_small h]; simp
  · rw [dec_big h]; simp
theorem decNat_snoc (l : List UInt8) (c : UInt8) : decNat (l ++ [c]) = 10 * decNat l + (c.toNat - 48) := by simp [decNat]
theorem decNat_nought (l : List UInt8) : decNat (48 :: l) = decNat l := rfl
theorem dec_all (u : Nat) : ∀ c ∈ Lib.decDigits u, isDigit c = true := by
  induction u using Nat.strongRecOn with
  | _ u ih =>
    intro c hc
    by_cases h : u < 10
    · rw [dec_small h] at hc
      simp only [List.mem_singleton] at hc
      subst hc
      rw [isDigit_iff, dg_nat _ h]; omega
    · rw [dec_big h] at hc
      rcases List.mem_append.1 hc with h1 | h1
      · exact ih _ (by omega) c h1
      · simp only [List.mem_singleton] at h1
        subst h1
        rw [isDigit_iff, dg_nat _ (by omega)]; omega
theorem dec_val (u : Nat) : decNat (Lib.decDigits u) = u := by
  induction u using Nat.strongRecOn with
  | _ u ih =>
    by_cases h : u < 10
    · rw [dec_small h]
      show 10 * 0 + ((UInt8.ofNat (48 + u)).toNat - 48) = u
      rw [dg_nat _ h]; omega
    · rw [dec_big h, decNat_snoc, ih _ (by omega), dg_nat _ (by omega)]; omega
/-- A number's digits, with noughts ahead. -/
def digs (k u : Nat) : List UInt8 := List.replicate k 48 ++ Lib.decDigits u
theorem digs_ne (k u : Nat) : digs k u ≠ [] := by unfold digs; simp [dec_ne]
theorem digs_all (k u : Nat) : ∀ c ∈ digs k u, isDigit c = true := fun c hc => by
  rcases List.mem_append.1 hc with h | h
  · rw [(List.mem_replicate.1 h).2]; decide
  · exact dec_all u c h
theorem digs_val (k u : Nat) : decNat (digs k u) = u := by
  induction k with
  | zero => exact dec_val u
  | succ k ih => show decNat (48 :: (List.replicate k 48 ++ Lib.decDigits u)) = u; rw [decNat_nought]; exact ih

/-! Hexadecimal digits. -/
def hx (d : Nat) : UInt8 := if d < 10 then UInt8.ofNat (48 + d) else UInt8.ofNat (87 + d)
def hexD (u : Nat) : List UInt8 := if h : u < 16 then [hx u] else hexD (u / 16) ++ [hx (u % 16)]
termination_by u
decreasing_by omega
theorem hexD_small {u : Nat} (h : u < 16) : hexD u = [hx u] := by rw [hexD, dif_pos h]
theorem hexD_big {u : Nat} (h : ¬ u < 16) : hexD u = hexD (u / 16) ++ [hx (u % 16)] := by rw [hexD, dif_neg h]
theorem hexVal_hx : ∀ d, d < 16 → hexVal (hx d) = some d := by decide +kernel
theorem hexD_ne (u : Nat) : hexD u ≠ [] := by
  by_cases h : u < 16
  · rw [hexD_small h]; simp
  · rw [hexD_big h]; simp
theorem hexD_all (u : Nat) : ∀ c ∈ hexD u, isHex c = true := by
  induction u using Nat.strongRecOn with
  | _ u ih =>
    intro c hc
    by_cases h : u < 16
    · rw [hexD_small h] at hc
      simp only [List.mem_singleton] at hc
      subst hc
      unfold isHex
      rw [hexVal_hx _ h]; rfl
    · rw [hexD_big h] at hc
      rcases List.mem_append.1 hc with h1 | h1
      · exact ih _ (by omega) c h1
      · simp only [List.mem_singleton] at h1
        subst h1
        unfold isHex
        rw [hexVal_hx _ (by omega)]; rfl
theorem hexNat_snoc (l : List UInt8) (c : UInt8) : hexNat (l ++ [c]) = 16 * hexNat l + (hexVal c).getD 0 := by simp [hexNat]
theorem hexD_val (u : Nat) : hexNat (hexD u) = u := by
  induction u using Nat.strongRecOn with
  | _ u ih =>
    by_cases h : u < 16
    · rw [hexD_small h]
      show 16 * 0 + (hexVal (hx u)).getD 0 = u
      rw [hexVal_hx _ h]
      simp
    · rw [hexD_big h, hexNat_snoc, ih _ (by omega), hexVal_hx _ (by omega)]
      simp only [Option.getD_some]; omega
theorem hexD_len (k : Nat) : ∀ u : Nat, u < 16 ^ (k + 1) → (hexD u).length ≤ k + 1 := by
  induction k with
  | zero => intro u hu; rw [hexD_small (by simpa using hu)]; simp
  | succ k ih =>
    intro u hu
    by_cases h : u < 16
    · rw [hexD_small h]; simp
    · rw [hexD_big h, List.length_append]
      have := ih (u / 16) (by rw [Nat.div_lt_iff_lt_mul (by omega)]; rw [Nat.pow_succ] at hu; exact hu)
      simp only [List.length_cons, List.length_nil]
      omega
theorem numTok_hex {u : Nat} (h : u < 18446744073709551616) : numTokAt (48 :: 120 :: hexD u) = some (asI64 u, (48 :: 120 :: hexD u).length) := by
  have hl := hexD_len 15 u (by omega)
  have hl1 : 1 ≤ (hexD u).length := by have := hexD_ne u; cases hu : hexD u with
    | nil => exact absurd hu this
    | cons a b => simp
  have hr : runLen isHex (hexD u) = (hexD u).length := by
    have := runLen_app (hexD u) [] (hexD_all u) (fun c hc => by cases hc)
    rwa [List.append_nil] at this
  have hn : numAt (48 :: 120 :: hexD u) = some (asI64 u, (hexD u).length + 2) := by
    unfold numAt
    rw [if_pos (by exact ⟨rfl, rfl⟩)]
    have e : (48 :: 120 :: hexD u).drop 2 = hexD u := rfl
    rw [e, hr, if_pos ⟨hl1, hl⟩, List.take_length, hexD_val]
  unfold numTokAt
  rw [hn]
  simp only
  rw [if_neg]
  · rfl
  · unfold wAt
    rw [List.getElem?_eq_none (by simp)]
    simp
theorem asI64_of {n : Int} (h0 : -9223372036854775808 ≤ n) (h1 : n ≤ 9223372036854775807) : asI64 (n % 18446744073709551616).toNat = n := by
  unfold asI64
  split <;> omega
end Go.AB
