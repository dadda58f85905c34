/- The sum tells a change of at most four neighbouring bytes. No program in sight. -/
import Derived.Test.YtdakcphkaljghaaFplain
namespace Go.AB
open Go.RowKit

theorem xor_cancel_r {a b c : Nat} (h : a ^^^ c = b ^^^ c) : a = b := by
  have := congrArg (· ^^^ c) h
  simpa [Nat.xor_assoc] using this
theorem xor_cancel_l {a b c : Nat} (h : c ^^^ a = c ^^^ b) : a = b := xor_cancel_r (c := c) (by rwa [Nat.xor_comm a, Nat.xor_comm b])
theorem crcBit_top {c : Nat} (h : c < 4294967296) : (crcBit c).testBit 31 = decide (c % 2 = 1) := by
  have hd : (c / 2).testBit 31 = false := Nat.testBit_lt_two_pow (by omega)
  unfold crcBit
  split
  · rename_i h1
    rw [Nat.testBit_xor, hd, decide_eq_true h1]
    decide
  · rename_i h1
    rw [hd]
    simp; omega
theorem crcBit_inj {a b : Nat} (ha : a < 4294967296) (hb : b < 4294967296) (h : crcBit a = crcBit b) : a = b := by
  have h1 := crcBit_top ha
  have h2 := crcBit_top hb
  rw [h, h2] at h1
  have h3 : (a % 2 = 1) ↔ (b % 2 = 1) := by simpa using h1.symm
  unfold crcBit at h
  by_cases hp : a % 2 = 1
  · rw [if_pos hp, if_pos (h3.1 hp)] at h
    have := xor_cancel_r h
    have := h3.1 hp
    omega
  · rw [if_neg hp, if_neg (fun e => hp (h3.2 e))] at h
    have h5 : ¬ b % 2 = 1 := fun e => hp (h3.2 e)
    omega
theorem crcBits_inj (q : Nat) : ∀ {a b : Nat}, a < 4294967296 → b < 4294967296 → crcBits q a = crcBits q b → a = b := by
  induction q with
  | zero => intro a b _ _ h; exact h
  | succ q ih => intro a b ha hb h; exact ih ha hb (crcBit_inj (crcBits_lt q ha) (crcBits_lt q hb) h)
theorem crcBit_shift (a b : Nat) : crcBit (a ^^^ (b <<< 1)) = crcBit a ^^^ b := by
  have h1 : (a ^^^ (b <<< 1)) % 2 = a % 2 := by
    have h := Nat.xor_mod_two_pow (a := a) (b := b <<< 1) (n := 1)
    rw [show (b <<< 1) % 2 ^ 1 = 0 from by rw [Nat.shiftLeft_eq]; omega, Nat.xor_zero] at h
    exact h
  have h2 : (a ^^^ (b <<< 1)) / 2 = a / 2 ^^^ b := by
    have h := Nat.shiftRight_xor_distrib (a := a) (b := b <<< 1) (i := 1)
    rw [Nat.shiftRight_eq_div_pow, Nat.shiftRight_eq_div_pow, Nat.shiftRight_eq_div_pow, Nat.shiftLeft_eq, show 2 ^ 1 = 2 from rfl, Nat.mul_div_cancel _ (by decide)] at h
    rw [Nat.shiftLeft_eq]
    exact h
  unfold crcBit
  rw [h1, h2]
  split
  · rw [Nat.xor_assoc, Nat.xor_comm b, ← Nat.xor_assoc]
  · rfl
theorem crcBits_shift (q : Nat) : ∀ a b, crcBits q (a ^^^ (b <<< q)) = crcBits q a ^^^ b := by
  induction q with
  | zero => intro a b; rfl
  | succ q ih =>
    intro a b
    have e : b <<< (q + 1) = (b <<< 1) <<< q := by rw [← Nat.shiftLeft_add, Nat.add_comm]
    show crcBit (crcBits q _) = crcBit (crcBits q a) ^^^ b
    rw [e, ih, crcBit_shift]
theorem crcBits_add (m n c : Nat) : crcBits (m + n) c = crcBits m (crcBits n c) := by
  induction m with
  | zero => rw [Nat.zero_add]; rfl
  | succ m ih => rw [Nat.succ_add]; show crcBit _ = crcBit _; rw [ih]
def packB : List UInt8 → Nat
  | [] => 0
  | x :: l => x.toNat ^^^ (packB l <<< 8)
theorem crcSum_pack (l : List UInt8) : ∀ c, crcSum c l = crcBits (8 * l.length) (c ^^^ packB l) := by
  induction l with
  | nil => intro c; simp [crcSum, packB, crcBits]
  | cons x l ih =>
    intro c
    have h1 : crcSum c (x :: l) = crcSum (crcBits 8 (c ^^^ x.toNat)) l := rfl
    rw [h1, ih, ← crcBits_shift 8, List.length_cons, Nat.mul_succ, crcBits_add, packB, Nat.xor_assoc]
theorem packB_split (x : UInt8) (l : List UInt8) : packB (x :: l) % 256 = x.toNat ∧ packB (x :: l) / 256 = packB l := by
  have hx := x.toNat_lt
  have h := Nat.xor_mod_two_pow (a := x.toNat) (b := packB l <<< 8) (n := 8)
  rw [show (packB l <<< 8) % 2 ^ 8 = 0 from by rw [Nat.shiftLeft_eq]; omega, Nat.xor_zero, show 2 ^ 8 = 256 from rfl] at h
  have h2 := Nat.shiftRight_xor_distrib (a := x.toNat) (b := packB l <<< 8) (i := 8)
  rw [show x.toNat >>> 8 = 0 from by rw [Nat.shiftRight_eq_div_pow]; omega, Nat.shiftLeft_shiftRight, Nat.zero_xor, Nat.shiftRight_eq_div_pow] at h2
  have e : packB (x :: l) = x.toNat ^^^ (packB l <<< 8) := rfl
  rw [e]
  exact ⟨by rw [h]; omega, h2⟩
theorem packB_lt (l : List UInt8) : packB l < 256 ^ l.length := by
  induction l with
  | nil => simp [packB]
  | cons x l ih =>
    obtain ⟨h1, h2⟩ := packB_split x l
    have hx := x.toNat_lt
    rw [List.length_cons, Nat.pow_succ]
    omega
theorem packB_inj : ∀ {l m : List UInt8}, l.length = m.length → packB l = packB m → l = m
  | [], [], _, _ => rfl
  | x :: l, y :: m, hl, h => by
    obtain ⟨h1, h2⟩ := packB_split x l
    obtain ⟨h3, h4⟩ := packB_split y m
    rw [h] at h1 h2
    have e1 : x = y := UInt8.toNat_inj.1 (by omega)
    have e2 := packB_inj (l := l) (m := m) (by simpa using hl) (by omega)
    rw [e1, e2]
  | [], _ :: _, hl, _ => by simp at hl
  | _ :: _, [], hl, _ => by simp at hl
theorem crcSum_inj_state (l : List UInt8) {a b : Nat} (ha : a < 4294967296) (hb : b < 4294967296) (h : crcSum a l = crcSum b l) : a = b := by
  induction l generalizing a b with
  | nil => exact h
  | cons x l ih =>
    have h1 := ih (crcByte_lt ha x) (crcByte_lt hb x) h
    have h2 := crcBits_inj 8 (xor_lt32 a ha x) (xor_lt32 b hb x) h1
    exact xor_cancel_r h2
theorem crcSum_inj_part {l m : List UInt8} (hl : l.length = m.length) (h4 : l.length ≤ 4) {c : Nat} (hc : c < 4294967296) (h : crcSum c l = crcSum c m) : l = m := by
  rw [crcSum_pack, crcSum_pack, ← hl] at h
  have hp : ∀ k : List UInt8, k.length ≤ 4 → packB k < 4294967296 := fun k hk => Nat.lt_of_lt_of_le (packB_lt k) (by
    have := Nat.pow_le_pow_right (n := 256) (by decide) hk
    omega)
  have h1 := crcBits_inj _ (Nat.xor_lt_two_pow (n := 32) hc (hp l h4)) (Nat.xor_lt_two_pow (n := 32) hc (hp m (by omega))) h
  exact packB_inj hl (xor_cancel_l h1)
/-- A window of at most four bytes that differs: the sum differs. -/
theorem sumB_window {a l m z : List UInt8} (hl : l.length = m.length) (h4 : l.length ≤ 4) (h : sumB (a ++ l ++ z) = sumB (a ++ m ++ z)) : l = m := by
  unfold sumB at h
  have h1 := xor_cancel_r h
  rw [crcSum_append, crcSum_append, crcSum_append, crcSum_append] at h1
  have hc := crcSum_lt (c := 4294967295) a (by omega)
  exact crcSum_inj_part hl h4 hc (crcSum_inj_state z (crcSum_lt l hc) (crcSum_lt m hc) h1)
end Go.AB
