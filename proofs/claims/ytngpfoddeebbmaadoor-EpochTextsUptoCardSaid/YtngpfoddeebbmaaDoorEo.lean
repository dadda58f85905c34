/- Numbers in digits, and the texts of epochs, plain. No program in sight. -/
import Derived.Test.YtngpfoddeebbmaaDoorEp
import Derived.Lib.ItoaNum
import Derived.Lib.IndexMore
namespace Go.AB
open Go.RowKit
set_option linter.unusedVariables false

theorem head_app {l m : List UInt8} (h : l ≠ []) : (l ++ m).head? = l.head? := by
  cases l with
  | nil => exact absurd rfl h
  | cons a r => rfl
def isDg (c : UInt8) : Bool := decide (48 ≤ c.toNat) && decide (c.toNat ≤ 57)
theorem isDg_iff {c : UInt8} : isDg c = true ↔ 48 ≤ c.toNat ∧ c.toNat ≤ 57 := by simp [isDg]
/-- The number that digits are, going on from another. -/
def valL : Nat → List UInt8 → Nat
  | a, [] => a
  | a, c :: r => valL (a * 10 + (c.toNat - 48)) r
theorem valL_append : ∀ (a : Nat) (l m : List UInt8), valL a (l ++ m) = valL (valL a l) m
  | _, [], _ => rfl
  | a, c :: r, m => valL_append _ r m
theorem valL_ge : ∀ (a : Nat) (l : List UInt8), a ≤ valL a l
  | _, [] => Nat.le_refl _
  | a, c :: r => by
    have := valL_ge (a * 10 + (c.toNat - 48)) r
    show a ≤ valL (a * 10 + (c.toNat - 48)) r
    omega
theorem dg_nat (d : Nat) (h : d < 10) : (UInt8.ofNat (48 + d)).toNat = 48 + d := by rw [UInt8.toNat_ofNat']; omega
theorem dec_small {u : Nat} (h : u < 10) : Lib.decDigits u = [UInt8.ofNat (48 + u)] := by rw [Lib.decDigits, dif_pos h]
theorem dec_big {u : Nat} (h : ¬ u < 10) : Lib.decDigits u = Lib.decDigits (u / 10) ++ [UInt8.ofNat (48 + u % 10)] := by rw [Lib.decDigits, dif_neg h]
theorem dec_ne (u : Nat) : Lib.decDigits u ≠ [] := by
  by_cases h : u < 10
  · rw [dec_small h]; simp
  · rw [dec_big h]; simp
theorem dec_all (u : Nat) : ∀ c ∈ Lib.decDigits u, isDg c = true := by
  induction u using Nat.strongRecOn with
  | _ u ih =>
    intro c hc
    by_cases h : u < 10
    · rw [dec_small h] at hc
      simp only [List.mem_singleton] at hc
      subst hc
      rw [isDg_iff, dg_nat _ h]; omega
    · rw [dec_big h] at hc
      rcases List.mem_append.1 hc with h1 | h1
      · exact ih _ (by omega) c h1
      · simp only [List.mem_singleton] at h1
        subst h1
        rw [isDg_iff, dg_nat _ (by omega)]; omega
theorem dec_val (u : Nat) : valL 0 (Lib.decDigits u) = u := by
  induction u using Nat.strongRecOn with
  | _ u ih =>
    by_cases h : u < 10
    · rw [dec_small h]
      show 0 * 10 + ((UInt8.ofNat (48 + u)).toNat - 48) = u
      rw [dg_nat _ h]; omega
    · rw [dec_big h, valL_append, ih _ (by omega)]
      show u / 10 * 10 + ((UInt8.ofNat (48 + u % 10)).toNat - 48) = u
      rw [dg_nat _ (by omega)]; omega
theorem dec_head (u : Nat) (h1 : 1 ≤ u) : (Lib.decDigits u).head? ≠ some 48 := by
  induction u using Nat.strongRecOn with
  | _ u ih =>
    by_cases h : u < 10
    · rw [dec_small h]
      intro he
      simp only [List.head?_cons, Option.some.injEq] at he
      have := congrArg UInt8.toNat he
      rw [dg_nat _ h] at this
      have e48 : (48 : UInt8).toNat = 48 := rfl
      omega
    · rw [dec_big h, head_app (dec_ne _)]
      exact ih _ (by omega) (by omega)
theorem dec_len (k : Nat) : ∀ u : Nat, u < 10 ^ (k + 1) → (Lib.decDigits u).length ≤ k + 1 := by
  induction k with
  | zero => intro u hu; rw [dec_small (by simpa using hu)]; simp
  | succ k ih =>
    intro u hu
    by_cases h : u < 10
    · rw [dec_small h]; simp
    · rw [dec_big h, List.length_append]
      have := ih (u / 10) (by rw [Nat.div_lt_iff_lt_mul (by omega)]; rw [Nat.pow_succ] at hu; exact hu)
      simp only [List.length_cons, List.length_nil]
      omega
theorem valL_pos : ∀ (l : List UInt8), (∀ c ∈ l, isDg c = true) → l ≠ [] → l.head? ≠ some 48 → 1 ≤ valL 0 l
  | [], _, h, _ => absurd rfl h
  | c :: r, ha, _, hh => by
    have h1 := isDg_iff.1 (ha c (by simp))
    have h2 : c.toNat ≠ 48 := fun e => hh (by simp only [List.head?_cons, Option.some.injEq]; exact UInt8.toNat_inj.1 e)
    have h3 := valL_ge (0 * 10 + (c.toNat - 48)) r
    show 1 ≤ valL (0 * 10 + (c.toNat - 48)) r
    omega
/-- Digits without a nought ahead are those of their number. -/
theorem dec_back (n : Nat) : ∀ l : List UInt8, l.length = n → (∀ c ∈ l, isDg c = true) → l ≠ [] → (l.length = 1 ∨ l.head? ≠ some 48) → Lib.decDigits (valL 0 l) = l := by
  induction n with
  | zero => intro l hl _ hne _; exact absurd (List.eq_nil_of_length_eq_zero hl) hne
  | succ n ih =>
    intro l hl ha hne hh
    obtain ⟨l', d, rfl⟩ : ∃ l' d, l = l' ++ [d] := ⟨l.dropLast, l.getLast hne, (List.dropLast_concat_getLast hne).symm⟩
    have hd := isDg_iff.1 (ha d (by simp))
    have hdb : UInt8.ofNat (48 + (d.toNat - 48)) = d := by
      apply UInt8.toNat_inj.1
      rw [dg_nat _ (by omega)]; omega
    rw [valL_append]
    show Lib.decDigits (valL 0 l' * 10 + (d.toNat - 48)) = _
    by_cases hl' : l' = []
    · subst hl'
      show Lib.decDigits (0 * 10 + (d.toNat - 48)) = _
      rw [dec_small (by omega), show 0 * 10 + (d.toNat - 48) = d.toNat - 48 from by omega, hdb]
      rfl
    · have hlen : l'.length = n := by simpa using hl
      have hn : 1 ≤ l'.length := by rcases l' with _ | ⟨a, b⟩; exact absurd rfl hl'; simp
      have hh' : l'.head? ≠ some 48 := by
        rcases hh with h | h
        · rw [List.length_append] at h; simp only [List.length_cons, List.length_nil] at h; omega
        · rwa [head_app hl'] at h
      have ha' : ∀ c ∈ l', isDg c = true := fun c hc => ha c (by simp [hc])
      have hp := valL_pos l' ha' hl' hh'
      rw [dec_big (by omega), show (valL 0 l' * 10 + (d.toNat - 48)) / 10 = valL 0 l' from by omega, show (valL 0 l' * 10 + (d.toNat - 48)) % 10 = d.toNat - 48 from by omega, hdb, ih l' hlen ha' hl' (.inr hh')]

/-- What the library reads as a number: digits alone, no more than most. -/
def pu (most : Nat) : Nat → List UInt8 → Option Nat
  | a, [] => some a
  | a, c :: r => if isDg c = true ∧ a * 10 + (c.toNat - 48) ≤ most then pu most (a * 10 + (c.toNat - 48)) r else none
def puL (most : Nat) (l : List UInt8) : Option Nat := if l = [] then none else pu most 0 l
theorem pu_eq (most : Nat) : ∀ (l : List UInt8) (a : Nat), a ≤ most → pu most a l = if (∀ c ∈ l, isDg c = true) ∧ valL a l ≤ most then some (valL a l) else none
  | [], a, h => by rw [if_pos ⟨by simp, h⟩]; rfl
  | c :: r, a, h => by
    show (if isDg c = true ∧ a * 10 + (c.toNat - 48) ≤ most then pu most (a * 10 + (c.toNat - 48)) r else none) = _
    by_cases h1 : isDg c = true ∧ a * 10 + (c.toNat - 48) ≤ most
    · rw [if_pos h1, pu_eq most r _ h1.2]
      by_cases h2 : (∀ c ∈ r, isDg c = true) ∧ valL (a * 10 + (c.toNat - 48)) r ≤ most
      · rw [if_pos h2, if_pos ⟨fun x hx => (List.mem_cons.1 hx).elim (fun e => e ▸ h1.1) (h2.1 x), h2.2⟩]; rfl
      · rw [if_neg h2, if_neg (fun h3 => h2 ⟨fun x hx => h3.1 x (by simp [hx]), h3.2⟩)]
    · rw [if_neg h1, if_neg]
      rintro ⟨h2, h3⟩
      apply h1
      refine ⟨h2 c (by simp), ?_⟩
      have := valL_ge (a * 10 + (c.toNat - 48)) r
      have h4 : valL a (c :: r) = valL (a * 10 + (c.toNat - 48)) r := rfl
      omega
theorem puL_dec {most u : Nat} (h : u ≤ most) : puL most (Lib.decDigits u) = some u := by
  unfold puL
  rw [if_neg (dec_ne u), pu_eq _ _ _ (by omega), dec_val, if_pos ⟨dec_all u, h⟩]

/-- The number that the document reads: digits, no nought ahead, no more than most. -/
def numL (most : Nat) (l : List UInt8) : Option Nat :=
  if l = [] ∨ 15 < l.length ∨ (1 < l.length ∧ l.head? = some 48) then none
  else if (∀ c ∈ l, isDg c = true) ∧ valL 0 l ≤ most then some (valL 0 l) else none
theorem numL_some {most : Nat} {l : List UInt8} {n : Nat} (h : numL most l = some n) : l = Lib.decDigits n ∧ n ≤ most := by
  unfold numL at h
  split at h
  · cases h
  · rename_i h1
    split at h
    · rename_i h2
      simp only [Option.some.injEq] at h
      subst h
      refine ⟨(dec_back _ l rfl h2.1 (fun e => h1 (.inl e)) ?_).symm, h2.2⟩
      by_cases h3 : 1 < l.length
      · exact .inr fun e => h1 (.inr (.inr ⟨h3, e⟩))
      · have : l ≠ [] := fun e => h1 (.inl e)
        have : 1 ≤ l.length := by rcases l with _ | ⟨a, b⟩; exact absurd rfl this; simp
        exact .inl (by omega)
    · cases h
theorem numL_dec {most u : Nat} (h : u ≤ most) (hm : most < 1000000000000000) : numL most (Lib.decDigits u) = some u := by
  unfold numL
  have hlen := dec_len 14 u (by omega)
  rw [if_neg, if_pos ⟨dec_all u, by rw [dec_val]; exact h⟩, dec_val]
  rintro (h1 | h1 | ⟨h1, h2⟩)
  · exact dec_ne u h1
  · omega
  · by_cases h3 : u < 10
    · rw [dec_small h3] at h1; simp at h1
    · exact dec_head u (by omega) h2

/-- A text's parts, ahead of the first '@' and behind it. -/
def cutAt : List UInt8 → Option (List UInt8 × List UInt8)
  | [] => none
  | c :: r => if c = 64 then some ([], r) else (cutAt r).map fun p => (c :: p.1, p.2)
theorem cutAt_some : ∀ {l a b : List UInt8}, cutAt l = some (a, b) → l = a ++ 64 :: b
  | [], _, _, h => by cases h
  | c :: r, a, b, h => by
    unfold cutAt at h
    split at h
    · rename_i hc
      simp only [Option.some.injEq, Prod.mk.injEq] at h
      obtain ⟨rfl, rfl⟩ := h
      rw [hc]; rfl
    · cases hr : cutAt r with
      | none => rw [hr] at h; cases h
      | some p =>
        rw [hr] at h
        simp only [Option.map_some, Option.some.injEq, Prod.mk.injEq] at h
        obtain ⟨rfl, rfl⟩ := h
        rw [cutAt_some (a := p.1) (b := p.2) hr]
        rfl
theorem cutAt_of : ∀ (a b : List UInt8), (∀ c ∈ a, c ≠ 64) → cutAt (a ++ 64 :: b) = some (a, b)
  | [], b, _ => by simp [cutAt]
  | c :: r, b, h => by
    rw [List.cons_append, cutAt, if_neg (h c (by simp)), cutAt_of r b (fun x hx => h x (by simp [hx]))]
    rfl
theorem dg_ne {c : UInt8} (h : isDg c = true) : c ≠ 64 := fun e => by subst e; exact absurd h (by decide)
end Go.AB
