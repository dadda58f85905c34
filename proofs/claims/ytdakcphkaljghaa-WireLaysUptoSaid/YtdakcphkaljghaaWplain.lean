/- Plain definitions for the wire layer: numbers and texts as bytes, the CRC. No program in sight. -/
import Derived.Test.YtdakcphkaljghaaObj
namespace Go.AB
open Go.RowKit

def crcBit (c : Nat) : Nat := if c % 2 = 1 then (c / 2) ^^^ 3988292384 else c / 2
def crcBits : Nat → Nat → Nat
  | 0, c => c
  | k + 1, c => crcBit (crcBits k c)
def crcByte (c : Nat) (x : UInt8) : Nat := crcBits 8 (c ^^^ x.toNat)
def crcSum (c : Nat) (l : List UInt8) : Nat := l.foldl crcByte c

theorem crcBit_lt {c : Nat} (h : c < 4294967296) : crcBit c < 4294967296 := by
  unfold crcBit
  split
  · exact Nat.xor_lt_two_pow (n := 32) (by omega) (by omega)
  · omega
theorem crcBits_lt (k : Nat) {c : Nat} (h : c < 4294967296) : crcBits k c < 4294967296 := by
  induction k with
  | zero => exact h
  | succ k ih => exact crcBit_lt ih
theorem crcByte_lt {c : Nat} (h : c < 4294967296) (x : UInt8) : crcByte c x < 4294967296 :=
  crcBits_lt 8 (Nat.xor_lt_two_pow (n := 32) h (by have := x.toNat_lt; omega))
theorem crcSum_lt (l : List UInt8) : ∀ {c : Nat}, c < 4294967296 → crcSum c l < 4294967296 := by
  induction l with
  | nil => exact fun h => h
  | cons x l ih => exact fun h => ih (crcByte_lt h x)
theorem crcSum_snoc (c : Nat) (l : List UInt8) (x : UInt8) : crcSum c (l ++ [x]) = crcByte (crcSum c l) x := by simp [crcSum]
theorem crcSum_append (c : Nat) (l m : List UInt8) : crcSum c (l ++ m) = crcSum (crcSum c l) m := by simp [crcSum]

theorem take_snoc {α : Type} (l : List α) (k : Nat) (h : k < l.length) : l.take (k + 1) = l.take k ++ [l[k]] := by
  rw [List.take_succ_eq_append_getElem h]

/-- One bit's step, as the program's 32 bits do it. -/
theorem crcBit_u32 (c : Nat) (h : c < 4294967296) :
    bits .xor .u32 ((c : Int) / 2) (bits .and .u32 3988292384 (-(bits .and .u32 (c : Int) 1) % 4294967296)) = (crcBit c : Int) := by
  have e1 : bits .and .u32 (c : Int) 1 = ((c % 2 : Nat) : Int) := by
    rw [show (1 : Int) = ((1 : Nat) : Int) from rfl, u32_and_nat c 1 h (by omega), Nat.and_one_is_mod]
  rw [e1]
  unfold crcBit
  rcases Nat.mod_two_eq_zero_or_one c with h0 | h0
  · rw [h0, if_neg (by omega)]
    have : bits .and .u32 3988292384 (-((0 : Nat) : Int) % 4294967296) = ((0 : Nat) : Int) := by decide
    rw [this, show (c : Int) / 2 = ((c / 2 : Nat) : Int) from by omega, u32_xor_nat _ _ (by omega) (by omega), Nat.xor_zero]
  · rw [h0, if_pos rfl]
    have : bits .and .u32 3988292384 (-((1 : Nat) : Int) % 4294967296) = ((3988292384 : Nat) : Int) := by decide
    rw [this, show (c : Int) / 2 = ((c / 2 : Nat) : Int) from by omega, u32_xor_nat _ _ (by omega) (by omega)]
theorem crcXor_u32 (c : Nat) (h : c < 4294967296) (x : UInt8) : bits .xor .u32 (c : Int) ((x.toNat : Int) % 4294967296) = ((c ^^^ x.toNat : Nat) : Int) := by
  have := x.toNat_lt
  rw [show ((x.toNat : Int) % 4294967296) = ((x.toNat : Nat) : Int) from by omega, u32_xor_nat _ _ h (by omega)]
theorem xor_lt32 (c : Nat) (h : c < 4294967296) (x : UInt8) : c ^^^ x.toNat < 4294967296 := Nat.xor_lt_two_pow (n := 32) h (by have := x.toNat_lt; omega)

/-- A number's lowest n bytes, the lowest first. -/
def fixedB : Nat → Nat → List UInt8
  | 0, _ => []
  | n + 1, v => UInt8.ofNat v :: fixedB n (v / 256)
theorem fixedB_length (n v : Nat) : (fixedB n v).length = n := by
  induction n generalizing v with
  | zero => rfl
  | succ n ih => simp [fixedB, ih]

/-- How many bytes a width has. -/
def sizeOfW : Nat → Nat
  | 0 => 1 | 1 => 2 | 2 => 4 | 3 => 8 | 4 => 1 | 5 => 2 | 6 => 4 | 7 => 8 | _ => 0
theorem fixedB_congr (n : Nat) : ∀ a b, a % 256 ^ n = b % 256 ^ n → fixedB n a = fixedB n b := by
  induction n with
  | zero => intros; rfl
  | succ n ih =>
    intro a b h
    have h1 : a % 256 = b % 256 := by
      have := congrArg (· % 256) h
      simp only [Nat.pow_succ] at this
      rwa [Nat.mod_mul_left_mod, Nat.mod_mul_left_mod] at this
    have h2 : (a / 256) % 256 ^ n = (b / 256) % 256 ^ n := by
      have := congrArg (· / 256) h
      simp only [Nat.pow_succ', Nat.mod_mul_right_div_self] at this
      exact this
    simp only [fixedB]
    rw [ih _ _ h2]
    congr 1
    apply UInt8.toNat_inj.1
    simpa using h1
/-- How many bytes a number of a width has; 0: there is no such width. -/
def sizeI (k : Int) : Nat := if 0 ≤ k ∧ k < 8 then sizeOfW k.toNat else 0
/-- A short number's bytes. -/
def shortB (v : Nat) : List UInt8 := if h : v < 128 then [UInt8.ofNat v] else UInt8.ofNat (128 + v % 128) :: shortB (v / 128)
termination_by v
decreasing_by omega
theorem shortB_lt {v : Nat} (h : v < 128) : shortB v = [UInt8.ofNat v] := by unfold shortB; rw [dif_pos h]
theorem shortB_ge {v : Nat} (h : 128 ≤ v) : shortB v = UInt8.ofNat (128 + v % 128) :: shortB (v / 128) := by
  conv => lhs; unfold shortB
  rw [dif_neg (by omega)]
theorem shortB_len (f : Nat) : ∀ v, v < 128 ^ (f + 1) → (shortB v).length ≤ f + 1 := by
  induction f with
  | zero => intro v h; rw [shortB_lt (by omega)]; simp
  | succ f ih =>
    intro v h
    by_cases hv : v < 128
    · rw [shortB_lt hv]; simp
    · rw [shortB_ge (by omega), List.length_cons]
      have := ih (v / 128) (by rw [Nat.pow_succ] at h; exact Nat.div_lt_of_lt_mul (by omega))
      omega
theorem shortB_len10 {v : Nat} (h : v < 18446744073709551616) : (shortB v).length ≤ 10 :=
  shortB_len 9 v (Nat.lt_of_lt_of_le h (by decide))
theorem flat_fixed_len {α : Type} (n : Nat) (xs : List α) (f : α → List UInt8) (h : ∀ x, (f x).length = n) : (xs.flatMap f).length = xs.length * n := by
  induction xs with
  | nil => simp
  | cons x xs ih => rw [List.flatMap_cons, List.length_append, h, ih, List.length_cons, Nat.succ_mul]; omega
theorem flat_len_le {α : Type} (n : Nat) (xs : List α) (f : α → List UInt8) (h : ∀ x ∈ xs, (f x).length ≤ n) : (xs.flatMap f).length ≤ xs.length * n := by
  induction xs with
  | nil => simp
  | cons x xs ih =>
    have h1 := h x (by simp)
    have h2 := ih fun y hy => h y (by simp [hy])
    rw [List.flatMap_cons, List.length_append, List.length_cons, Nat.succ_mul]; omega
/-- A number with a sign, of 64 bits (behind a name). -/
def I64 (x : Int) : Prop := -9223372036854775808 ≤ x ∧ x ≤ 9223372036854775807
/-- A short signed number as a short one. -/
def zig (x : Int) : Nat := if x < 0 then (-2 * x - 1).toNat else (2 * x).toNat
theorem zig_U64 {x : Int} (h : I64 x) : U64 (zig x) := by unfold I64 at h; unfold U64 zig; split <;> omega
theorem xor_ones (n a : Nat) (h : a < 2 ^ n) : a ^^^ (2 ^ n - 1) = 2 ^ n - (a + 1) := by
  apply Nat.eq_of_testBit_eq
  intro i
  rw [Nat.testBit_xor, Nat.testBit_two_pow_sub_one, Nat.testBit_two_pow_sub_succ h]
  by_cases hi : i < n
  · simp [hi]
  · have : a.testBit i = false := Nat.testBit_lt_two_pow (Nat.lt_of_lt_of_le h (Nat.pow_le_pow_right (by decide) (by omega)))
    simp [hi, this]
theorem zig_u64 {x : Int} (h : I64 x) : bits .xor .u64 (IntKind.u64.wrap (IntKind.u64.wrap x * 2)) (IntKind.u64.wrap (x / 9223372036854775808)) = (zig x : Int) := by
  unfold I64 at h
  simp only [IntKind.wrap_u64]
  unfold zig
  split
  · rename_i h0
    have e1 : x % 18446744073709551616 * 2 % 18446744073709551616 = (((2 * x + 18446744073709551616).toNat : Nat) : Int) := by omega
    have e2 : x / 9223372036854775808 % 18446744073709551616 = ((2 ^ 64 - 1 : Nat) : Int) := by omega
    rw [e1, e2, u64_xor_nat _ _ (by omega) (by omega), xor_ones 64 _ (by omega)]
    omega
  · rename_i h0
    have e1 : x % 18446744073709551616 * 2 % 18446744073709551616 = (((2 * x).toNat : Nat) : Int) := by omega
    have e2 : x / 9223372036854775808 % 18446744073709551616 = ((0 : Nat) : Int) := by omega
    rw [e1, e2, u64_xor_nat _ _ (by omega) (by omega), Nat.xor_zero]
theorem wrap_u64_div {u : Nat} (h : U64 u) (k : Nat) : IntKind.u64.wrap ((u : Int) / (k : Int)) = ((u / k : Nat) : Int) := by
  have h2 := h.div k
  unfold U64 at h2
  rw [IntKind.wrap_u64, ← Int.natCast_ediv]
  generalize u / k = q at *
  omega
theorem turned_neg {x : Int} (h : I64 x) (h0 : x < 0) : IntKind.u64.wrap (IntKind.u64.wrap (2 * IntKind.u64.wrap (wrap64 (-wrap64 (x + 1)))) + 1) = (zig x : Int) := by
  unfold I64 at h
  rw [IntWalk.wrap64_in (x + 1) (by omega), IntWalk.wrap64_in _ (by omega)]
  simp only [IntKind.wrap_u64]
  unfold zig
  rw [if_pos h0]
  omega
theorem turned_pos {x : Int} (h : I64 x) (h0 : ¬ x < 0) : IntKind.u64.wrap (2 * IntKind.u64.wrap x) = (zig x : Int) := by
  unfold I64 at h
  simp only [IntKind.wrap_u64]
  unfold zig
  rw [if_neg h0]
  omega
/-- A number with a sign as 64 bits without one. -/
def lowU (x : Int) : Nat := (x % 18446744073709551616).toNat
theorem lowU_U64 (x : Int) : U64 (lowU x) := by unfold U64 lowU; omega
theorem wrap_lowU (x : Int) : IntKind.u64.wrap x = (lowU x : Int) := by
  rw [IntKind.wrap_u64]; unfold lowU; omega
end Go.AB
