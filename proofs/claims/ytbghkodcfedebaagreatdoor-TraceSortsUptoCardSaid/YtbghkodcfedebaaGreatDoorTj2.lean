/- Joined by join.py out of Wplain, Rplain, Rlaw, Rback, Fplain, Tplain, Tlaw. -/
import Derived.Test.YtbghkodcfedebaaGreatDoorTj1
set_option linter.unusedSimpArgs false
set_option linter.unusedVariables false
set_option linter.unusedSectionVars false

/- Plain definitions for the wire layer: numbers and texts as bytes, the CRC. No program in sight. -/
namespace Go.AB
open Go.RowKit

def crcBit (c : Nat) : Nat := if c % 2 = 1 then (c / 2) ^^^ 3988292384 else c / 2
def crcBits : Nat → Nat → Nat
  | 0, c => c
  | k + 1, c => crcBit (crcBits k c)
def crcByte (c : Nat) (x : UInt8) : Nat := crcBits 8 (c ^^^ x.toNat)
def crcSum (c : Nat) (l : List UInt8) : Nat := l.foldl crcByte c

theorem crcBit_lt {c : Nat} (h : c < 4294967296) : crcBit c < 4294967296 := by
  unfold crcBit
  split
  · exact Nat.xor_lt_two_pow (n := 32) (by omega) (by omega)
  · omega
theorem crcBits_lt (k : Nat) {c : Nat} (h : c < 4294967296) : crcBits k c < 4294967296 := by
  induction k with
  | zero => exact h
  | succ k ih => exact crcBit_lt ih
theorem crcByte_lt {c : Nat} (h : c < 4294967296) (x : UInt8) : crcByte c x < 4294967296 :=
  crcBits_lt 8 (Nat.xor_lt_two_pow (n := 32) h (by have := x.toNat_lt; omega))
theorem crcSum_lt (l : List UInt8) : ∀ {c : Nat}, c < 4294967296 → crcSum c l < 4294967296 := by
  induction l with
  | nil => exact fun h => h
  | cons x l ih => exact fun h => ih (crcByte_lt h x)
theorem crcSum_snoc (c : Nat) (l : List UInt8) (x : UInt8) : crcSum c (l ++ [x]) = crcByte (crcSum c l) x := by simp [crcSum]
theorem crcSum_append (c : Nat) (l m : List UInt8) : crcSum c (l ++ m) = crcSum (crcSum c l) m := by simp [crcSum]

theorem take_snoc {α : Type} (l : List α) (k : Nat) (h : k < l.length) : l.take (k + 1) = l.take k ++ [l[k]] := by
  rw [List.take_succ_eq_append_getElem h]

/-- One bit's step, as the program's 32 bits do it. -/
theorem crcBit_u32 (c : Nat) (h : c < 4294967296) :
    bits .xor .u32 ((c : Int) / 2) (bits .and .u32 3988292384 (-(bits .and .u32 (c : Int) 1) % 4294967296)) = (crcBit c : Int) := by
  have e1 : bits .and .u32 (c : Int) 1 = ((c % 2 : Nat) : Int) := by
    rw [show (1 : Int) = ((1 : Nat) : Int) from rfl, u32_and_nat c 1 h (by omega), Nat.and_one_is_mod]
  rw [e1]
  unfold crcBit
  rcases Nat.mod_two_eq_zero_or_one c with h0 | h0
  · rw [h0, if_neg (by omega)]
    have : bits .and .u32 3988292384 (-((0 : Nat) : Int) % 4294967296) = ((0 : Nat) : Int) := by decide
    rw [this, show (c : Int) / 2 = ((c / 2 : Nat) : Int) from by omega, u32_xor_nat _ _ (by omega) (by omega), Nat.xor_zero]
  · rw [h0, if_pos rfl]
    have : bits .and .u32 3988292384 (-((1 : Nat) : Int) % 4294967296) = ((3988292384 : Nat) : Int) := by decide
    rw [this, show (c : Int) / 2 = ((c / 2 : Nat) : Int) from by omega, u32_xor_nat _ _ (by omega) (by omega)]
theorem crcXor_u32 (c : Nat) (h : c < 4294967296) (x : UInt8) : bits .xor .u32 (c : Int) ((x.toNat : Int) % 4294967296) = ((c ^^^ x.toNat : Nat) : Int) := by
  have := x.toNat_lt
  rw [show ((x.toNat : Int) % 4294967296) = ((x.toNat : Nat) : Int) from by omega, u32_xor_nat _ _ h (by omega)]
theorem xor_lt32 (c : Nat) (h : c < 4294967296) (x : UInt8) : c ^^^ x.toNat < 4294967296 := Nat.xor_lt_two_pow (n := 32) h (by have := x.toNat_lt; omega)

/-- A number's lowest n bytes, the lowest first. -/
def fixedB : Nat → Nat → List UInt8
  | 0, _ => []
  | n + 1, v => UInt8.ofNat v :: fixedB n (v / 256)
theorem fixedB_length (n v : Nat) : (fixedB n v).length = n := by
  induction n generalizing v with
  | zero => rfl
  | succ n ih => simp [fixedB, ih]

/-- How many bytes a width has. -/
def sizeOfW : Nat → Nat
  | 0 => 1 | 1 => 2 | 2 => 4 | 3 => 8 | 4 => 1 | 5 => 2 | 6 => 4 | 7 => 8 | _ => 0
theorem fixedB_congr (n : Nat) : ∀ a b, a % 256 ^ n = b % 256 ^ n → fixedB n a = fixedB n b := by
  induction n with
  | zero => intros; rfl
  | succ n ih =>
    intro a b h
    have h1 : a % 256 = b % 256 := by
      have := congrArg (· % 256) h
      simp only [Nat.pow_succ] at this
      rwa [Nat.mod_mul_left_mod, Nat.mod_mul_left_mod] at this
    have h2 : (a / 256) % 256 ^ n = (b / 256) % 256 ^ n := by
      have := congrArg (· / 256) h
      simp only [Nat.pow_succ', Nat.mod_mul_right_div_self] at this
      exact this
    simp only [fixedB]
    rw [ih _ _ h2]
    congr 1
    apply UInt8.toNat_inj.1
    simpa using h1
/-- How many bytes a number of a width has; 0: there is no such width. -/
def sizeI (k : Int) : Nat := if 0 ≤ k ∧ k < 8 then sizeOfW k.toNat else 0
/-- A short number's bytes. -/
def shortB (v : Nat) : List UInt8 := if h : v < 128 then [UInt8.ofNat v] else UInt8.ofNat (128 + v % 128) :: shortB (v / 128)
termination_by v
decreasing_by omega
theorem shortB_lt {v : Nat} (h : v < 128) : shortB v = [UInt8.ofNat v] := by unfold shortB; rw [dif_pos h]
theorem shortB_ge {v : Nat} (h : 128 ≤ v) : shortB v = UInt8.ofNat (128 + v % 128) :: shortB (v / 128) := by
  conv => lhs; unfold shortB
  rw [dif_neg (by omega)]
theorem shortB_len (f : Nat) : ∀ v, v < 128 ^ (f + 1) → (shortB v).length ≤ f + 1 := by
  induction f with
  | zero => intro v h; rw [shortB_lt (by omega)]; simp
  | succ f ih =>
    intro v h
    by_cases hv : v < 128
    · rw [shortB_lt hv]; simp
    · rw [shortB_ge (by omega), List.length_cons]
      have := ih (v / 128) (by rw [Nat.pow_succ] at h; exact Nat.div_lt_of_lt_mul (by omega))
      omega
theorem shortB_len10 {v : Nat} (h : v < 18446744073709551616) : (shortB v).length ≤ 10 :=
  shortB_len 9 v (Nat.lt_of_lt_of_le h (by decide))
theorem flat_fixed_len {α : Type} (n : Nat) (xs : List α) (f : α → List UInt8) (h : ∀ x, (f x).length = n) : (xs.flatMap f).length = xs.length * n := by
  induction xs with
  | nil => simp
  | cons x xs ih => rw [List.flatMap_cons, List.length_append, h, ih, List.length_cons, Nat.succ_mul]; omega
theorem flat_len_le {α : Type} (n : Nat) (xs : List α) (f : α → List UInt8) (h : ∀ x ∈ xs, (f x).length ≤ n) : (xs.flatMap f).length ≤ xs.length * n := by
  induction xs with
  | nil => simp
  | cons x xs ih =>
    have h1 := h x (by simp)
    have h2 := ih fun y hy => h y (by simp [hy])
    rw [List.flatMap_cons, List.length_append, List.length_cons, Nat.succ_mul]; omega
/-- A number with a sign, of 64 bits (behind a name). -/
def I64 (x : Int) : Prop := -9223372036854775808 ≤ x ∧ x ≤ 9223372036854775807
/-- A short signed number as a short one. -/
def zig (x : Int) : Nat := if x < 0 then (-2 * x - 1).toNat else (2 * x).toNat
theorem zig_U64 {x : Int} (h : I64 x) : U64 (zig x) := by unfold I64 at h; unfold U64 zig; split <;> omega
theorem xor_ones (n a : Nat) (h : a < 2 ^ n) : a ^^^ (2 ^ n - 1) = 2 ^ n - (a + 1) := by
  apply Nat.eq_of_testBit_eq
  intro i
  rw [Nat.testBit_xor, Nat.testBit_two_pow_sub_one, Nat.testBit_two_pow_sub_succ h]
  by_cases hi : i < n
  · simp [hi]
  · have : a.testBit i = false := Nat.testBit_lt_two_pow (Nat.lt_of_lt_of_le h (Nat.pow_le_pow_right (by decide) (by omega)))
    simp [hi, this]
theorem zig_u64 {x : Int} (h : I64 x) : bits .xor .u64 (IntKind.u64.wrap (IntKind.u64.wrap x * 2)) (IntKind.u64.wrap (x / 9223372036854775808)) = (zig x : Int) := by
  unfold I64 at h
  simp only [IntKind.wrap_u64]
  unfold zig
  split
  · rename_i h0
    have e1 : x % 18446744073709551616 * 2 % 18446744073709551616 = (((2 * x + 18446744073709551616).toNat : Nat) : Int) := by omega
    have e2 : x / 9223372036854775808 % 18446744073709551616 = ((2 ^ 64 - 1 : Nat) : Int) := by omega
    rw [e1, e2, u64_xor_nat _ _ (by omega) (by omega), xor_ones 64 _ (by omega)]
    omega
  · rename_i h0
    have e1 : x % 18446744073709551616 * 2 % 18446744073709551616 = (((2 * x).toNat : Nat) : Int) := by omega
    have e2 : x / 9223372036854775808 % 18446744073709551616 = ((0 : Nat) : Int) := by omega
    rw [e1, e2, u64_xor_nat _ _ (by omega) (by omega), Nat.xor_zero]
theorem wrap_u64_div {u : Nat} (h : U64 u) (k : Nat) : IntKind.u64.wrap ((u : Int) / (k : Int)) = ((u / k : Nat) : Int) := by
  have h2 := h.div k
  unfold U64 at h2
  rw [IntKind.wrap_u64, ← Int.natCast_ediv]
  generalize u / k = q at *
  omega
theorem turned_neg {x : Int} (h : I64 x) (h0 : x < 0) : IntKind.u64.wrap (IntKind.u64.wrap (2 * IntKind.u64.wrap (wrap64 (-wrap64 (x + 1)))) + 1) = (zig x : Int) := by
  unfold I64 at h
  rw [IntWalk.wrap64_in (x + 1) (by omega), IntWalk.wrap64_in _ (by omega)]
  simp only [IntKind.wrap_u64]
  unfold zig
  rw [if_pos h0]
  omega
theorem turned_pos {x : Int} (h : I64 x) (h0 : ¬ x < 0) : IntKind.u64.wrap (2 * IntKind.u64.wrap x) = (zig x : Int) := by
  unfold I64 at h
  simp only [IntKind.wrap_u64]
  unfold zig
  rw [if_neg h0]
  omega
/-- A number with a sign as 64 bits without one. -/
def lowU (x : Int) : Nat := (x % 18446744073709551616).toNat
theorem lowU_U64 (x : Int) : U64 (lowU x) := by unfold U64 lowU; omega
theorem wrap_lowU (x : Int) : IntKind.u64.wrap x = (lowU x : Int) := by
  rw [IntKind.wrap_u64]; unfold lowU; omega
end Go.AB

/- Plain definitions for the wire layer: what is read. No program in sight. -/
namespace Go.AB
open Go.RowKit

/-- The short number that stands at the head: its value, how many bytes, what is wrong (0: nothing). i: how many bytes went before; f: how many may come. -/
def peekF : Nat → Nat → List UInt8 → Nat × Nat × Nat
  | 0, _, _ => (0, 0, 11)
  | _ + 1, _, [] => (0, 0, 10)
  | f + 1, i, b :: rest =>
    if (i = 9 ∧ 1 < b.toNat) ∨ (b.toNat = 0 ∧ 0 < i) then (0, 0, 11)
    else if b.toNat < 128 then (b.toNat, i + 1, 0)
    else if (peekF f (i + 1) rest).2.2 = 0 then (b.toNat - 128 + 128 * (peekF f (i + 1) rest).1, (peekF f (i + 1) rest).2.1, 0)
    else (0, 0, (peekF f (i + 1) rest).2.2)
def peekS (l : List UInt8) : Nat × Nat × Nat := peekF 10 0 l

theorem peekF_len : ∀ f i l, (peekF f i l).2.2 = 0 → i < (peekF f i l).2.1 ∧ (peekF f i l).2.1 ≤ i + l.length
  | 0, _, _, h => by simp [peekF] at h
  | f + 1, i, [], h => by simp [peekF] at h
  | f + 1, i, b :: rest, h => by
    unfold peekF at h ⊢
    split
    · rename_i h1; rw [if_pos h1] at h; simp at h
    · rename_i h1
      rw [if_neg h1] at h
      split
      · simp only [List.length_cons]; omega
      · rename_i h2
        rw [if_neg h2] at h
        split
        · rename_i h3
          have := peekF_len f (i + 1) rest h3
          simp only [List.length_cons]
          omega
        · rename_i h3
          rw [if_neg h3] at h
          exact absurd h h3
theorem peekF_lt : ∀ f i l, f + i ≤ 10 → (peekF f i l).1 < 2 ^ (64 - 7 * i)
  | 0, i, _, _ => by simp [peekF]; exact Nat.two_pow_pos _
  | f + 1, i, [], _ => by simp [peekF]; exact Nat.two_pow_pos _
  | f + 1, i, b :: rest, h => by
    unfold peekF
    have hb := b.toNat_lt
    split
    · exact Nat.two_pow_pos _
    · rename_i h1
      split
      · rename_i h2
        by_cases h9 : i = 9
        · subst h9
          simp only
          omega
        · exact Nat.lt_of_lt_of_le h2 (Nat.pow_le_pow_right (n := 2) (i := 7) (by decide) (by omega))
      · rename_i h2
        split
        · have hi : i ≠ 9 := fun h9 => h1 (.inl ⟨h9, by omega⟩)
          have := peekF_lt f (i + 1) rest (by omega)
          have e : 2 ^ (64 - 7 * i) = 128 * 2 ^ (64 - 7 * (i + 1)) := by
            rw [show 64 - 7 * i = (64 - 7 * (i + 1)) + 7 from by omega, Nat.pow_add]; omega
          simp only
          rw [e]
          omega
        · exact Nat.two_pow_pos _
theorem peekS_U64 (l : List UInt8) : U64 (peekS l).1 := peekF_lt 10 0 l (by omega)
theorem peekF_err : ∀ f i l, (peekF f i l).2.2 = 0 ∨ ((peekF f i l).1 = 0 ∧ (peekF f i l).2.1 = 0)
  | 0, _, _ => by simp [peekF]
  | f + 1, i, [] => by simp [peekF]
  | f + 1, i, b :: rest => by
    unfold peekF
    repeat' split
    all_goals simp

theorem pow128 (q : Nat) : 128 ^ q = 2 ^ (7 * q) := by rw [Nat.pow_mul]
theorem acc_step (x q acc : Nat) (h : acc < 128 ^ q) (hx : x < 256) (h9 : x % 128 * 2 ^ (7 * q) < 18446744073709551616) (hq : 128 ^ q < 18446744073709551616) :
    bits .or .u64 (acc : Int) (IntKind.u64.wrap (IntKind.u64.wrap (bits .and .u8 (x : Int) 127) * 2 ^ (7 * q))) = ((acc + 128 ^ q * (x % 128) : Nat) : Int) := by
  have e1 : bits .and .u8 (x : Int) 127 = ((x % 128 : Nat) : Int) := by
    rw [show (127 : Int) = ((127 : Nat) : Int) from rfl, u8_and_nat x 127 hx (by omega)]
    congr 1
    exact Nat.and_two_pow_sub_one_eq_mod x 7
  have e2 : IntKind.u64.wrap ((x % 128 : Nat) : Int) = ((x % 128 : Nat) : Int) := by rw [IntKind.wrap_u64]; omega
  have e3 : ((x % 128 : Nat) : Int) * 2 ^ (7 * q) = ((x % 128 * 2 ^ (7 * q) : Nat) : Int) := by push_cast; rfl
  rw [e1, e2, e3]
  generalize hy : x % 128 * 2 ^ (7 * q) = y at *
  have e4 : IntKind.u64.wrap (y : Int) = (y : Int) := by rw [IntKind.wrap_u64]; omega
  rw [e4, u64_or_nat _ _ (by omega) h9]
  congr 1
  rw [← hy, Nat.or_comm, ← Nat.shiftLeft_eq, ← Nat.shiftLeft_add_eq_or_of_lt (by rw [← pow128]; exact h), Nat.shiftLeft_eq, pow128, Nat.mul_comm, Nat.add_comm]

/-- A number of so many bytes, the lowest first. -/
def leNat : List UInt8 → Nat
  | [] => 0
  | b :: l => b.toNat + 256 * leNat l
theorem leNat_lt (l : List UInt8) : leNat l < 256 ^ l.length := by
  induction l with
  | nil => simp [leNat]
  | cons b l ih =>
    have := b.toNat_lt
    simp only [leNat, List.length_cons, Nat.pow_succ]
    omega

theorem or_gen (A y K L m k : Nat) (hK : K = 2 ^ m) (hL : L = 2 ^ k) (hy : y < L) (hb : (A * L + y) * K < 18446744073709551616) :
    bits .or .u64 ((A * (L * K) : Nat) : Int) ((y * K : Nat) : Int) = (((A * L + y) * K : Nat) : Int) := by
  have e : (A * L + y) * K = A * (L * K) + y * K := by rw [Nat.add_mul, Nat.mul_assoc]
  have hyk : y * K < 2 ^ (k + m) := by
    rw [Nat.pow_add, ← hL, ← hK]
    exact Nat.mul_lt_mul_of_pos_right hy (by rw [hK]; exact Nat.two_pow_pos _)
  rw [u64_or_nat _ _ (by omega) (by omega)]
  congr 1
  rw [e, hL, hK, ← Nat.pow_add, ← Nat.shiftLeft_eq A, ← hK, ← Nat.shiftLeft_add_eq_or_of_lt hyk]
theorem wrap_byte (x : UInt8) : IntKind.u64.wrap (x.toNat : Int) = (x.toNat : Int) := by have := x.toNat_lt; rw [IntKind.wrap_u64]; omega
theorem wrap_shift (x : UInt8) (K : Nat) (hK : K ≤ 72057594037927936) : IntKind.u64.wrap (IntKind.u64.wrap (x.toNat : Int) * (K : Int)) = ((x.toNat * K : Nat) : Int) := by
  have := x.toNat_lt
  have h : x.toNat * K ≤ 255 * 72057594037927936 := Nat.mul_le_mul (by omega) hK
  rw [wrap_byte, IntKind.wrap_u64, ← Int.natCast_mul]
  generalize x.toNat * K = y at *
  omega
theorem or_zero_u64 (y : Nat) (h : y < 18446744073709551616) : bits .or .u64 0 (y : Int) = (y : Int) := by
  rw [show (0 : Int) = ((0 : Nat) : Int) from rfl, u64_or_nat _ _ (by decide) h, Nat.zero_or]
section
variable (b0 b1 b2 b3 b4 b5 b6 b7 : UInt8)
theorem leNat_lt1 : (leNat [b0] : Int) % 256 = (leNat [b0] : Int) := by have := leNat_lt [b0]; simp only [List.length_cons, List.length_nil] at this; omega
theorem leNat_lt2 : IntKind.u16.wrap (leNat [b0, b1] : Int) = (leNat [b0, b1] : Int) := by have := leNat_lt [b0, b1]; simp only [List.length_cons, List.length_nil] at this; rw [IntKind.wrap_u16]; omega
theorem leNat_lt4 : (leNat [b0, b1, b2, b3] : Int) % 4294967296 = (leNat [b0, b1, b2, b3] : Int) := by have := leNat_lt [b0, b1, b2, b3]; simp only [List.length_cons, List.length_nil] at this; omega
theorem le1 : bits .or .u64 0 (IntKind.u64.wrap (b0.toNat : Int)) = (leNat [b0] : Int) := by
  have h0 := b0.toNat_lt
  rw [wrap_byte, or_zero_u64 _ (by omega)]
  simp [leNat]
theorem le2 : bits .or .u64 (bits .or .u64 0 (IntKind.u64.wrap (IntKind.u64.wrap (b1.toNat : Int) * 256))) (IntKind.u64.wrap (b0.toNat : Int)) = (leNat [b0, b1] : Int) := by
  have h0 := b0.toNat_lt
  have h1 := b1.toNat_lt
  have s1 := wrap_shift b1 256 (by decide)
  rw [show ((256 : Nat) : Int) = 256 from rfl] at s1
  rw [s1, or_zero_u64 _ (by omega), wrap_byte]
  have s2 := or_gen b1.toNat b0.toNat 1 256 0 8 rfl rfl (by omega) (by omega)
  simp only [Nat.mul_one] at s2
  rw [s2]
  congr 1
  simp only [leNat]
  omega
theorem le4 : bits .or .u64 (bits .or .u64 (bits .or .u64 0 (bits .or .u64 (IntKind.u64.wrap (IntKind.u64.wrap (b3.toNat : Int) * 16777216)) (IntKind.u64.wrap (IntKind.u64.wrap (b2.toNat : Int) * 65536))))
      (IntKind.u64.wrap (IntKind.u64.wrap (b1.toNat : Int) * 256))) (IntKind.u64.wrap (b0.toNat : Int)) = (leNat [b0, b1, b2, b3] : Int) := by
  have h0 := b0.toNat_lt
  have h1 := b1.toNat_lt
  have h2 := b2.toNat_lt
  have h3 := b3.toNat_lt
  have s1 := wrap_shift b1 256 (by decide)
  have s2 := wrap_shift b2 65536 (by decide)
  have s3 := wrap_shift b3 16777216 (by decide)
  rw [show ((256 : Nat) : Int) = 256 from rfl] at s1
  rw [show ((65536 : Nat) : Int) = 65536 from rfl] at s2
  rw [show ((16777216 : Nat) : Int) = 16777216 from rfl] at s3
  rw [s1, s2, s3, wrap_byte]
  have t1 := or_gen b3.toNat b2.toNat 65536 256 16 8 rfl rfl (by omega) (by omega)
  rw [show 256 * 65536 = 16777216 from rfl] at t1
  rw [t1, or_zero_u64 _ (by omega)]
  have t2 := or_gen (b3.toNat * 256 + b2.toNat) b1.toNat 256 256 8 8 rfl rfl (by omega) (by omega)
  rw [show 256 * 256 = 65536 from rfl] at t2
  rw [t2]
  have t3 := or_gen ((b3.toNat * 256 + b2.toNat) * 256 + b1.toNat) b0.toNat 1 256 0 8 rfl rfl (by omega) (by omega)
  simp only [Nat.mul_one] at t3
  rw [t3]
  congr 1
  simp only [leNat]
  omega
theorem le8 : bits .or .u64 (bits .or .u64 (bits .or .u64 (bits .or .u64 0 (bits .or .u64 (bits .or .u64 (bits .or .u64 (IntKind.u64.wrap (IntKind.u64.wrap (b7.toNat : Int) * 72057594037927936)) (IntKind.u64.wrap (IntKind.u64.wrap (b6.toNat : Int) * 281474976710656)))
        (IntKind.u64.wrap (IntKind.u64.wrap (b5.toNat : Int) * 1099511627776))) (IntKind.u64.wrap (IntKind.u64.wrap (b4.toNat : Int) * 4294967296))))
      (bits .or .u64 (IntKind.u64.wrap (IntKind.u64.wrap (b3.toNat : Int) * 16777216)) (IntKind.u64.wrap (IntKind.u64.wrap (b2.toNat : Int) * 65536))))
      (IntKind.u64.wrap (IntKind.u64.wrap (b1.toNat : Int) * 256))) (IntKind.u64.wrap (b0.toNat : Int)) = (leNat [b0, b1, b2, b3, b4, b5, b6, b7] : Int) := by
  have h0 := b0.toNat_lt
  have h1 := b1.toNat_lt
  have h2 := b2.toNat_lt
  have h3 := b3.toNat_lt
  have h4 := b4.toNat_lt
  have h5 := b5.toNat_lt
  have h6 := b6.toNat_lt
  have h7 := b7.toNat_lt
  have s1 := wrap_shift b1 256 (by decide)
  have s2 := wrap_shift b2 65536 (by decide)
  have s3 := wrap_shift b3 16777216 (by decide)
  have s4 := wrap_shift b4 4294967296 (by decide)
  have s5 := wrap_shift b5 1099511627776 (by decide)
  have s6 := wrap_shift b6 281474976710656 (by decide)
  have s7 := wrap_shift b7 72057594037927936 (by decide)
  rw [show ((256 : Nat) : Int) = 256 from rfl] at s1
  rw [show ((65536 : Nat) : Int) = 65536 from rfl] at s2
  rw [show ((16777216 : Nat) : Int) = 16777216 from rfl] at s3
  rw [show ((4294967296 : Nat) : Int) = 4294967296 from rfl] at s4
  rw [show ((1099511627776 : Nat) : Int) = 1099511627776 from rfl] at s5
  rw [show ((281474976710656 : Nat) : Int) = 281474976710656 from rfl] at s6
  rw [show ((72057594037927936 : Nat) : Int) = 72057594037927936 from rfl] at s7
  rw [s1, s2, s3, s4, s5, s6, s7, wrap_byte]
  clear s1 s2 s3 s4 s5 s6 s7
  have t1 := or_gen b7.toNat b6.toNat 281474976710656 256 48 8 rfl rfl (by omega) (by omega)
  rw [show 256 * 281474976710656 = 72057594037927936 from rfl] at t1
  rw [t1]
  have t2 := or_gen (b7.toNat * 256 + b6.toNat) b5.toNat 1099511627776 256 40 8 rfl rfl (by omega) (by omega)
  rw [show 256 * 1099511627776 = 281474976710656 from rfl] at t2
  rw [t2]
  have t3 := or_gen ((b7.toNat * 256 + b6.toNat) * 256 + b5.toNat) b4.toNat 4294967296 256 32 8 rfl rfl (by omega) (by omega)
  rw [show 256 * 4294967296 = 1099511627776 from rfl] at t3
  rw [t3, or_zero_u64 _ (by omega)]
  have t4 := or_gen b3.toNat b2.toNat 65536 256 16 8 rfl rfl (by omega) (by omega)
  rw [show 256 * 65536 = 16777216 from rfl] at t4
  rw [t4]
  have t5 := or_gen (((b7.toNat * 256 + b6.toNat) * 256 + b5.toNat) * 256 + b4.toNat) (b3.toNat * 256 + b2.toNat) 65536 65536 16 16 rfl rfl (by omega) (by omega)
  rw [show 65536 * 65536 = 4294967296 from rfl] at t5
  rw [t5]
  have t6 := or_gen ((((b7.toNat * 256 + b6.toNat) * 256 + b5.toNat) * 256 + b4.toNat) * 65536 + (b3.toNat * 256 + b2.toNat)) b1.toNat 256 256 8 8 rfl rfl (by omega) (by omega)
  rw [show 256 * 256 = 65536 from rfl] at t6
  rw [t6]
  have t7 := or_gen (((((b7.toNat * 256 + b6.toNat) * 256 + b5.toNat) * 256 + b4.toNat) * 65536 + (b3.toNat * 256 + b2.toNat)) * 256 + b1.toNat) b0.toNat 1 256 0 8 rfl rfl (by omega) (by omega)
  simp only [Nat.mul_one] at t7
  rw [t7]
  congr 1
  simp only [leNat]
  omega
end

/-- Where a reader stands: the place, the fault's place and number. -/
structure RS where
  pos : Nat
  wh : Nat
  bad : Nat
def RS.fails (s : RS) (e : Nat) : RS := { s with wh := s.pos, bad := e }
def rFixed (n : Nat) (l : List UInt8) (s : RS) : Nat × RS :=
  if s.bad ≠ 0 then (0, s) else if l.length - s.pos < n then (0, s.fails 10) else (leNat ((l.drop s.pos).take n), { s with pos := s.pos + n })
def rShort (most : Nat) (l : List UInt8) (s : RS) : Nat × RS :=
  if s.bad ≠ 0 then (0, s)
  else if (peekS (l.drop s.pos)).2.2 ≠ 0 then (0, s.fails (peekS (l.drop s.pos)).2.2)
  else if most < (peekS (l.drop s.pos)).1 then (0, s.fails 12)
  else ((peekS (l.drop s.pos)).1, { s with pos := s.pos + (peekS (l.drop s.pos)).2.1 })
/-- A width that is none takes nothing. -/
def rWidth (k : Int) (l : List UInt8) (s : RS) : Nat × RS := if 0 ≤ k ∧ k < 8 then rFixed (sizeI k) l s else (0, s)
/-- A short number as a signed one. -/
def unzig (v : Nat) : Int := if v % 2 = 1 then -((v / 2 : Nat) : Int) - 1 else ((v / 2 : Nat) : Int)
theorem xor_i64_zero (m : Nat) (h : m < 9223372036854775808) : bits .xor .i64 (m : Int) 0 = (m : Int) := by
  have e : (BitVec.ofInt 64 (m : Int) ^^^ BitVec.ofInt 64 0).toNat = m := by
    rw [show BitVec.ofInt 64 0 = 0#64 from rfl, BitVec.xor_zero, BitVec.toNat_ofInt]
    omega
  show IntKind.i64.wrap (((BitVec.ofInt 64 (m : Int) ^^^ BitVec.ofInt 64 0).toNat : Nat) : Int) = _
  rw [e, IntKind.wrap_i64]
  omega
theorem xor_i64_ones (m : Nat) (h : m < 9223372036854775808) : bits .xor .i64 (m : Int) (-1) = -(m : Int) - 1 := by
  have e : (BitVec.ofInt 64 (m : Int) ^^^ BitVec.ofInt 64 (-1)).toNat = 18446744073709551615 - m := by
    rw [show BitVec.ofInt 64 (-1) = BitVec.allOnes 64 from by decide, BitVec.xor_allOnes, BitVec.toNat_not, BitVec.toNat_ofInt]
    omega
  show IntKind.i64.wrap (((BitVec.ofInt 64 (m : Int) ^^^ BitVec.ofInt 64 (-1)).toNat : Nat) : Int) = _
  rw [e, IntKind.wrap_i64]
  omega
theorem unzig_i64 {v : Nat} (h : U64 v) : bits .xor .i64 (wrap64 ((v : Int) / 2)) (wrap64 (-wrap64 (bits .and .u64 (v : Int) 1))) = unzig v := by
  have h' := h.out
  have e1 : wrap64 ((v : Int) / 2) = ((v / 2 : Nat) : Int) := by rw [IntWalk.wrap64_in _ (by omega)]; omega
  have e2 : bits .and .u64 (v : Int) 1 = ((v % 2 : Nat) : Int) := by
    rw [show (1 : Int) = ((1 : Nat) : Int) from rfl, u64_and_nat v 1 h' (by omega), Nat.and_one_is_mod]
  rw [e1, e2]
  unfold unzig
  rcases Nat.mod_two_eq_zero_or_one v with h0 | h0
  · rw [h0, if_neg (by omega), show wrap64 (-wrap64 ((0 : Nat) : Int)) = 0 from by simp [wrap64], xor_i64_zero _ (by omega)]
  · rw [h0, if_pos rfl, show wrap64 (-wrap64 ((1 : Nat) : Int)) = -1 from by simp [wrap64], xor_i64_ones _ (by omega)]
theorem rShort_U64 (most : Nat) (l : List UInt8) (s : RS) : U64 (rShort most l s).1 := by
  unfold rShort
  repeat' split
  all_goals first | exact peekS_U64 _ | (show (0 : Nat) < 18446744073709551616; decide)
def rSigned (l : List UInt8) (s : RS) : Int × RS := (unzig (rShort 18446744073709551615 l s).1, (rShort 18446744073709551615 l s).2)
def rFlag (l : List UInt8) (s : RS) : Bool × RS :=
  if s.bad ≠ 0 then (false, s)
  else match l.drop s.pos with
    | [] => (false, s.fails 10)
    | b :: _ => if 1 < b.toNat then (false, s.fails 11) else (b == 1, { s with pos := s.pos + 1 })
def rText (most : Int) (l : List UInt8) (s : RS) : List UInt8 × RS :=
  if s.bad ≠ 0 then ([], s)
  else if (peekS (l.drop s.pos)).2.2 ≠ 0 then ([], s.fails (peekS (l.drop s.pos)).2.2)
  else if most.toNat < (peekS (l.drop s.pos)).1 then ([], s.fails 12)
  else if l.length - (s.pos + (peekS (l.drop s.pos)).2.1) < (peekS (l.drop s.pos)).1 then ([], s.fails 10)
  else (((l.drop (s.pos + (peekS (l.drop s.pos)).2.1)).take (peekS (l.drop s.pos)).1), { s with pos := s.pos + (peekS (l.drop s.pos)).2.1 + (peekS (l.drop s.pos)).1 })
theorem wrap_max (most : Int) (h : I64 most) : IntKind.u64.wrap (max 0 most) = ((most.toNat : Nat) : Int) := by
  unfold I64 at h
  rw [IntKind.wrap_u64]; omega
def rEnd (l : List UInt8) (s : RS) : Nat := if s.bad ≠ 0 then s.bad else if s.pos < l.length then 13 else 0
/-- The place lies in the bytes. -/
def RS.ok (s : RS) (l : List UInt8) : Prop := s.pos ≤ l.length

theorem peekS_pos (l : List UInt8) (p : Nat) (hp : p ≤ l.length) (h : (peekS (l.drop p)).2.2 = 0) : p + (peekS (l.drop p)).2.1 ≤ l.length := by
  have := (peekF_len 10 0 (l.drop p) h).2
  rw [List.length_drop] at this
  unfold peekS
  omega
theorem rFixed_ok {n : Nat} {l : List UInt8} {s : RS} (h : s.ok l) : (rFixed n l s).2.ok l := by
  unfold rFixed RS.ok at *
  repeat' split
  all_goals simp only [RS.fails]; omega
theorem rShort_ok {n : Nat} {l : List UInt8} {s : RS} (h : s.ok l) : (rShort n l s).2.ok l := by
  unfold rShort RS.ok at *
  repeat' split
  all_goals simp only [RS.fails]
  all_goals first | omega | skip
  rename_i h1 h2 h3
  exact peekS_pos l s.pos h (by omega)
theorem rFlag_ok {l : List UInt8} {s : RS} (h : s.ok l) : (rFlag l s).2.ok l := by
  unfold rFlag RS.ok at *
  split
  · exact h
  · split
    · exact h
    · rename_i b t he
      have := congrArg List.length he
      rw [List.length_drop, List.length_cons] at this
      split
      · exact h
      · simp only; omega
theorem rText_ok {n : Int} {l : List UInt8} {s : RS} (h : s.ok l) : (rText n l s).2.ok l := by
  unfold rText RS.ok at *
  repeat' split
  all_goals simp only [RS.fails]
  all_goals first | omega | skip
  rename_i h1 h2 h3 h4
  have := peekS_pos l s.pos h (by omega)
  omega
end Go.AB

/- The wire layer's plain laws: what is taken and laid again is the same bytes. No program in sight. -/
namespace Go.AB
open Go.RowKit

theorem fixedB_leNat (l : List UInt8) : fixedB l.length (leNat l) = l := by
  induction l with
  | nil => rfl
  | cons b l ih =>
    have hb := b.toNat_lt
    simp only [List.length_cons, fixedB, leNat]
    rw [show (b.toNat + 256 * leNat l) / 256 = leNat l by omega, ih]
    congr 1
    apply UInt8.toNat_inj.1
    simp
theorem peekF_pos : ∀ f i l, 0 < i → (peekF f i l).2.2 = 0 → 0 < (peekF f i l).1
  | 0, _, _, _, h => by simp [peekF] at h
  | f + 1, i, [], _, h => by simp [peekF] at h
  | f + 1, i, b :: rest, hi, h => by
    unfold peekF at h ⊢
    split
    · rename_i h1; rw [if_pos h1] at h; simp at h
    · rename_i h1
      rw [if_neg h1] at h
      split
      · simp only; omega
      · rename_i h2
        rw [if_neg h2] at h
        split
        · rename_i h3
          have := peekF_pos f (i + 1) rest (by omega) h3
          simp only
          omega
        · rename_i h3
          rw [if_neg h3] at h
          exact absurd h h3
theorem shortB_peekF : ∀ f i l, (peekF f i l).2.2 = 0 → shortB (peekF f i l).1 = l.take ((peekF f i l).2.1 - i)
  | 0, _, _, h => by simp [peekF] at h
  | f + 1, i, [], h => by simp [peekF] at h
  | f + 1, i, b :: rest, h => by
    have hb := b.toNat_lt
    have hob : UInt8.ofNat b.toNat = b := by simp
    unfold peekF at h ⊢
    split
    · rename_i h1; rw [if_pos h1] at h; simp at h
    · rename_i h1
      rw [if_neg h1] at h
      split
      · rename_i h2
        rw [shortB_lt h2, show i + 1 - i = 1 by omega]
        simp
      · rename_i h2
        rw [if_neg h2] at h
        split
        · rename_i h3
          have hp := peekF_pos f (i + 1) rest (by omega) h3
          have hs := shortB_peekF f (i + 1) rest h3
          have hl := peekF_len f (i + 1) rest h3
          simp only
          generalize peekF f (i + 1) rest = p at *
          have hge : 128 ≤ b.toNat - 128 + 128 * p.1 := by omega
          rw [shortB_ge hge, show (b.toNat - 128 + 128 * p.1) / 128 = p.1 by omega, hs, show p.2.1 - i = (p.2.1 - (i + 1)) + 1 by omega, List.take_succ_cons]
          congr 1
          rw [show 128 + (b.toNat - 128 + 128 * p.1) % 128 = b.toNat by omega, hob]
        · rename_i h3
          rw [if_neg h3] at h
          exact absurd h h3
theorem shortB_peekS (l : List UInt8) (h : (peekS l).2.2 = 0) : shortB (peekS l).1 = l.take (peekS l).2.1 := shortB_peekF 10 0 l h
theorem zig_unzig (v : Nat) : zig (unzig v) = v := by
  unfold zig unzig
  rcases Nat.mod_two_eq_zero_or_one v with h | h
  · rw [if_neg (by omega), if_neg (by omega)]; omega
  · rw [if_pos h, if_pos (by omega)]; omega
theorem unzig_I64 {v : Nat} (h : U64 v) : I64 (unzig v) := by
  unfold U64 at h; unfold I64 unzig
  split <;> omega

/-- A take of the law's script. -/
structure TakeD where
  kind : Int
  width : Int
  n : Int
  most : Nat
/-- One take, and what is laid of it. -/
def onlyStep (l : List UInt8) (t : TakeD) (s : RS) : RS × List UInt8 :=
  if t.kind = 1 then ((rWidth t.width l s).2, fixedB (sizeI t.width) (rWidth t.width l s).1)
  else if t.kind = 2 then ((rShort t.most l s).2, shortB (rShort t.most l s).1)
  else if t.kind = 3 then ((rSigned l s).2, shortB (zig (rSigned l s).1))
  else if t.kind = 4 then ((rFlag l s).2, [if (rFlag l s).1 then 1 else 0])
  else if t.kind = 5 then ((rText t.n l s).2, shortB (rText t.n l s).1.length ++ (rText t.n l s).1)
  else (s, [])
/-- What holds of a step: the reader stays in the bytes; while it is right, what is laid is what was taken; what is laid is short. -/
structure StepOk (l : List UInt8) (s : RS) (r : RS × List UInt8) : Prop where
  ok : r.1.ok l
  le : s.pos ≤ r.1.pos
  keep : r.1.bad = 0 → s.bad = 0 ∧ l.take r.1.pos = l.take s.pos ++ r.2
  len : r.2.length + s.pos ≤ r.1.pos + 10
theorem take_drop_take {α : Type} (l : List α) (p n : Nat) : l.take (p + n) = l.take p ++ (l.drop p).take n := by rw [List.take_add]
theorem sizeI_le (k : Int) : sizeI k ≤ 8 := by
  unfold sizeI; split
  · rename_i h
    obtain ⟨q, rfl⟩ := Int.eq_ofNat_of_zero_le h.1
    match q, h with
    | 0, _ | 1, _ | 2, _ | 3, _ | 4, _ | 5, _ | 6, _ | 7, _ => decide
    | q + 8, h => omega
  · decide
theorem step_short (l : List UInt8) (m : Nat) (s : RS) (h : s.ok l) : StepOk l s ((rShort m l s).2, shortB (rShort m l s).1) := by
  have hok := rShort_ok (n := m) h
  have hlen := shortB_len10 (rShort_U64 m l s)
  unfold rShort at *
  repeat' split
  all_goals simp_all only [if_true, if_false, RS.fails, ne_eq, not_false_eq_true]
  · rename_i hb
    exact ⟨h, Nat.le_refl _, fun h0 => absurd h0 (by simpa using hb), by simp only; omega⟩
  · rename_i hb he
    exact ⟨h, Nat.le_refl _, fun h0 => absurd h0 he, by simp only; omega⟩
  · exact ⟨h, Nat.le_refl _, fun h0 => by simp at h0, by simp only; omega⟩
  · rename_i hb he hm
    refine ⟨hok, by simp only; omega, fun h0 => ⟨h0, ?_⟩, by simp only; omega⟩
    simp only
    rw [take_drop_take, shortB_peekS _ (by simpa using he)]
theorem step_signed (l : List UInt8) (s : RS) (h : s.ok l) : StepOk l s ((rSigned l s).2, shortB (zig (rSigned l s).1)) := by
  unfold rSigned
  rw [zig_unzig]
  exact step_short l _ s h
theorem step_flag (l : List UInt8) (s : RS) (h : s.ok l) : StepOk l s ((rFlag l s).2, [if (rFlag l s).1 then 1 else 0]) := by
  have hok := rFlag_ok h
  unfold rFlag at *
  split
  · rename_i hb
    exact ⟨h, Nat.le_refl _, fun h0 => absurd h0 (by simpa using hb), by simp; omega⟩
  · rename_i hb
    simp only [hb, if_false] at hok
    cases hd : l.drop s.pos with
    | nil => exact ⟨h, Nat.le_refl _, fun h0 => by simp [RS.fails] at h0, by simp [RS.fails]; omega⟩
    | cons b t =>
      rw [hd] at hok
      simp only at hok ⊢
      split
      · exact ⟨h, Nat.le_refl _, fun h0 => by simp [RS.fails] at h0, by simp [RS.fails]; omega⟩
      · rename_i hb1
        rw [if_neg hb1] at hok
        refine ⟨hok, by simp, fun h0 => ⟨h0, ?_⟩, by simp; omega⟩
        simp only
        rw [take_drop_take, hd]
        have : b = 0 ∨ b = 1 := by
          rcases Nat.lt_or_ge b.toNat 1 with h2 | h2
          · exact .inl (UInt8.toNat_inj.1 (by simp; omega))
          · exact .inr (UInt8.toNat_inj.1 (by simp; omega))
        rcases this with rfl | rfl <;> simp
theorem step_fixed (l : List UInt8) (n : Nat) (hn : n ≤ 8) (s : RS) (h : s.ok l) : StepOk l s ((rFixed n l s).2, fixedB n (rFixed n l s).1) := by
  have hok := rFixed_ok (n := n) h
  unfold rFixed at *
  split
  · rename_i hb
    exact ⟨h, Nat.le_refl _, fun h0 => absurd h0 (by simpa using hb), by simp [fixedB_length]; omega⟩
  · rename_i hb
    rw [if_neg hb] at hok
    split
    · exact ⟨h, Nat.le_refl _, fun h0 => by simp [RS.fails] at h0, by simp [RS.fails, fixedB_length]; omega⟩
    · rename_i hs
      rw [if_neg hs] at hok
      refine ⟨hok, by simp, fun h0 => ⟨h0, ?_⟩, by simp [fixedB_length]; omega⟩
      simp only
      rw [take_drop_take]
      congr 1
      have hl : ((l.drop s.pos).take n).length = n := by
        unfold RS.ok at h
        rw [List.length_take, List.length_drop]; omega
      have := fixedB_leNat ((l.drop s.pos).take n)
      rw [hl] at this
      exact this.symm
theorem step_width (l : List UInt8) (k : Int) (s : RS) (h : s.ok l) : StepOk l s ((rWidth k l s).2, fixedB (sizeI k) (rWidth k l s).1) := by
  unfold rWidth
  split
  · exact step_fixed l _ (sizeI_le k) s h
  · rename_i hk
    have : sizeI k = 0 := by unfold sizeI; rw [if_neg hk]
    rw [this]
    exact ⟨h, Nat.le_refl _, fun h0 => ⟨h0, by simp [fixedB]⟩, by simp [fixedB]⟩
theorem rText_len (m : Int) (l : List UInt8) (s : RS) {N : Nat} (h : l.length ≤ N) : (rText m l s).1.length ≤ N := by
  unfold rText
  repeat' split
  all_goals first | (simp; done) | (simp only [List.length_take, List.length_drop]; omega)
theorem step_text (l : List UInt8) (hl : l.length < 18446744073709551616) (m : Int) (s : RS) (h : s.ok l) : StepOk l s ((rText m l s).2, shortB (rText m l s).1.length ++ (rText m l s).1) := by
  have hok := rText_ok (n := m) h
  have hz : (shortB ([] : List UInt8).length ++ []).length = 1 := by rw [List.length_nil, shortB_lt (by decide)]; rfl
  unfold rText at *
  split
  · rename_i hb
    exact ⟨h, Nat.le_refl _, fun h0 => absurd h0 (by simpa using hb), by simp only [hz]; omega⟩
  · rename_i hb
    rw [if_neg hb] at hok
    split
    · rename_i he
      exact ⟨h, Nat.le_refl _, fun h0 => absurd h0 (by simpa [RS.fails] using he), by simp only [hz, RS.fails]; omega⟩
    · rename_i he
      rw [if_neg he] at hok
      split
      · exact ⟨h, Nat.le_refl _, fun h0 => by simp [RS.fails] at h0, by simp only [hz, RS.fails]; omega⟩
      · rename_i hm
        rw [if_neg hm] at hok
        split
        · exact ⟨h, Nat.le_refl _, fun h0 => by simp [RS.fails] at h0, by simp only [hz, RS.fails]; omega⟩
        · rename_i hlong
          rw [if_neg hlong] at hok
          have hp := peekS_pos l s.pos h (by simpa using he)
          have hlen : ((l.drop (s.pos + (peekS (l.drop s.pos)).2.1)).take (peekS (l.drop s.pos)).1).length = (peekS (l.drop s.pos)).1 := by
            rw [List.length_take, List.length_drop]; omega
          have h10 := shortB_len10 (peekS_U64 (l.drop s.pos))
          refine ⟨hok, by simp only; omega, fun h0 => ⟨h0, ?_⟩, ?_⟩
          · simp only
            rw [hlen, take_drop_take l (s.pos + (peekS (l.drop s.pos)).2.1), take_drop_take l s.pos, shortB_peekS _ (by simpa using he), List.append_assoc]
          · simp only [List.length_append, hlen]
            omega
theorem onlyStep_ok (l : List UInt8) (hl : l.length < 18446744073709551616) (t : TakeD) (s : RS) (h : s.ok l) : StepOk l s (onlyStep l t s) := by
  unfold onlyStep
  split
  · exact step_width l _ s h
  split
  · exact step_short l _ s h
  split
  · exact step_signed l s h
  split
  · exact step_flag l s h
  split
  · exact step_text l hl _ s h
  · exact ⟨h, Nat.le_refl _, fun h0 => ⟨h0, by simp⟩, by simp⟩
theorem only_next {l : List UInt8} (hl : l.length < 18446744073709551616) (t : TakeD) {s : RS} {out : List UInt8} {k : Nat} (h : s.ok l) (hlen : out.length ≤ s.pos + 10 * k) (hb : s.bad = 0 → out = l.take s.pos) :
    (out ++ (onlyStep l t s).2).length ≤ (onlyStep l t s).1.pos + 10 * (k + 1) ∧ ((onlyStep l t s).1.bad = 0 → out ++ (onlyStep l t s).2 = l.take (onlyStep l t s).1.pos) := by
  have hs := onlyStep_ok l hl t s h
  refine ⟨by have := hs.len; have := hs.le; rw [List.length_append]; omega, fun h0 => ?_⟩
  obtain ⟨h1, h2⟩ := hs.keep h0
  rw [h2, hb h1]
end Go.AB

/- The wire layer's plain laws: what was laid is taken off. No program in sight. -/
namespace Go.AB
open Go.RowKit

theorem peekF_shortB : ∀ (f i v : Nat) (rest : List UInt8), f + i = 10 → v < 2 ^ (64 - 7 * i) → (0 < i → 0 < v) → peekF f i (shortB v ++ rest) = (v, i + (shortB v).length, 0)
  | 0, i, v, rest, h, hv, hp => by
    obtain rfl : i = 10 := by omega
    have := hp (by omega)
    simp at hv
    omega
  | f + 1, i, v, rest, h, hv, hp => by
    by_cases h128 : v < 128
    · rw [shortB_lt h128]
      have e : (UInt8.ofNat v).toNat = v := by simp; omega
      have c : ¬ ((i = 9 ∧ 1 < v) ∨ (v = 0 ∧ 0 < i)) := by
        rintro (⟨rfl, h1⟩ | ⟨rfl, h1⟩)
        · simp at hv; omega
        · have := hp h1; omega
      simp only [List.cons_append, List.nil_append, peekF, e, List.length_cons, List.length_nil]
      rw [if_neg c, if_pos h128]
    · rw [shortB_ge (by omega)]
      have e : (UInt8.ofNat (128 + v % 128)).toNat = 128 + v % 128 := by simp; omega
      have h9 : i ≠ 9 := fun h9 => by subst h9; simp at hv; omega
      have hi : i ≤ 8 := by
        rcases Nat.lt_or_ge 9 i with h10 | h10
        · obtain rfl : i = 10 := by omega
          simp at hv; omega
        · omega
      have ih := peekF_shortB f (i + 1) (v / 128) rest (by omega) (by
        rw [show 64 - 7 * i = (64 - 7 * (i + 1)) + 7 by omega, Nat.pow_add] at hv
        exact Nat.div_lt_of_lt_mul (by omega)) (fun _ => by omega)
      have c : ¬ ((i = 9 ∧ 1 < 128 + v % 128) ∨ (128 + v % 128 = 0 ∧ 0 < i)) := by omega
      simp only [List.cons_append, peekF, e]
      rw [if_neg c, if_neg (by omega), ih]
      simp only [if_true, List.length_cons]
      refine Prod.ext ?_ (Prod.ext ?_ rfl)
      · show 128 + v % 128 - 128 + 128 * (v / 128) = v; omega
      · show i + 1 + (shortB (v / 128)).length = i + ((shortB (v / 128)).length + 1); omega
theorem peekS_shortB {v : Nat} (hv : U64 v) (rest : List UInt8) : peekS (shortB v ++ rest) = (v, (shortB v).length, 0) := by
  have := peekF_shortB 10 0 v rest rfl hv (fun h => absurd h (by omega))
  simpa [peekS] using this
theorem leNat_fixedB (n : Nat) : ∀ m, leNat (fixedB n m) = m % 256 ^ n := by
  induction n with
  | zero => intro m; simp [fixedB, leNat, Nat.mod_one]
  | succ n ih =>
    intro m
    simp only [fixedB, leNat, ih]
    rw [Nat.pow_succ', Nat.mod_mul]
    have : (UInt8.ofNat m).toNat = m % 256 := by simp
    rw [this]
theorem unzig_zig {x : Int} : unzig (zig x) = x := by
  unfold unzig zig
  split
  · rw [if_pos (by omega)]; omega
  · rw [if_neg (by omega)]; omega

theorem flat_step {α : Type} (f : α → List UInt8) (xs : List α) (k : Nat) (h : k < xs.length) : xs.flatMap f = (xs.take k).flatMap f ++ f xs[k] ++ (xs.drop (k + 1)).flatMap f := by
  conv => lhs; rw [← List.take_append_drop k xs, List.drop_eq_getElem_cons h]
  rw [List.flatMap_append, List.flatMap_cons, List.append_assoc]

section
variable {L rest : List UInt8} {p wh : Nat}
theorem back_short {v m : Nat} (hv : U64 v) (hm : v ≤ m) (h : L.drop p = shortB v ++ rest) : rShort m L ⟨p, wh, 0⟩ = (v, ⟨p + (shortB v).length, wh, 0⟩) := by
  unfold rShort
  simp only [h, peekS_shortB hv]
  simp
  omega
theorem back_signed {x : Int} (hx : I64 x) (h : L.drop p = shortB (zig x) ++ rest) : rSigned L ⟨p, wh, 0⟩ = (x, ⟨p + (shortB (zig x)).length, wh, 0⟩) := by
  have hz := zig_U64 hx
  unfold rSigned
  rw [back_short hz (by have := hz.out; omega) h, unzig_zig]
theorem back_fixed {n m : Nat} (h : L.drop p = fixedB n m ++ rest) : rFixed n L ⟨p, wh, 0⟩ = (m % 256 ^ n, ⟨p + n, wh, 0⟩) := by
  have hl := congrArg List.length h
  rw [List.length_drop, List.length_append, fixedB_length] at hl
  unfold rFixed
  have h2 : ¬ (L.length - p < n) := by omega
  have h3 : (fixedB n m ++ rest).take n = fixedB n m := by
    have := List.take_left (l₁ := fixedB n m) (l₂ := rest)
    rwa [fixedB_length] at this
  simp only [h, h3, leNat_fixedB]
  simp [h2]
theorem back_flag {t : Bool} (h : L.drop p = [if t then 1 else 0] ++ rest) : rFlag L ⟨p, wh, 0⟩ = (t, ⟨p + 1, wh, 0⟩) := by
  unfold rFlag
  rw [if_neg (by simp)]
  simp only [h]
  cases t <;> simp
theorem back_text {s : List UInt8} {m : Int} (hs : U64 s.length) (hm : s.length ≤ m.toNat) (h : L.drop p = shortB s.length ++ s ++ rest) : rText m L ⟨p, wh, 0⟩ = (s, ⟨p + (shortB s.length ++ s).length, wh, 0⟩) := by
  have h' : L.drop p = shortB s.length ++ (s ++ rest) := by rw [h, List.append_assoc]
  have hd : L.drop (p + (shortB s.length).length) = s ++ rest := by rw [← List.drop_drop, h', List.drop_left]
  have hl := congrArg List.length hd
  rw [List.length_drop, List.length_append] at hl
  have h1 : ¬ (m.toNat < s.length) := by omega
  have h2 : ¬ (L.length - (p + (shortB s.length).length) < s.length) := by omega
  unfold rText
  simp only [h', peekS_shortB hs, hd]
  simp [h1, h2, Nat.add_assoc]
theorem back_next {x : List UInt8} (h : L.drop p = x ++ rest) : L.drop (p + x.length) = rest := by rw [← List.drop_drop, h, List.drop_left]
end
end Go.AB

/- Plain definitions and laws for the frames of the wire layer. No program in sight. -/
namespace Go.AB
open Go.RowKit

def sumB (l : List UInt8) : Nat := crcSum 4294967295 l ^^^ 4294967295
theorem xorBegin_lt {c : Nat} (h : c < 4294967296) : c ^^^ 4294967295 < 4294967296 := Nat.xor_lt_two_pow (n := 32) h (by omega)
theorem sumB_lt (l : List UInt8) : sumB l < 4294967296 := xorBegin_lt (crcSum_lt l (by omega))
theorem xorBegin (c : Nat) (h : c < 4294967296) : bits .xor .u32 (c : Int) 4294967295 = ((c ^^^ 4294967295 : Nat) : Int) := by
  rw [show (4294967295 : Int) = ((4294967295 : Nat) : Int) from rfl, u32_xor_nat _ _ h (by omega)]
def headB (kind : UInt8) (n : Nat) : List UInt8 := kind :: fixedB 4 n
def frameB (kind : UInt8) (body : List UInt8) : List UInt8 := [97, 98] ++ headB kind body.length ++ fixedB 4 (sumB (headB kind body.length ++ body)) ++ body
theorem headB_length (k : UInt8) (n : Nat) : (headB k n).length = 5 := by simp [headB, fixedB_length]
theorem frameB_length (k : UInt8) (body : List UInt8) : (frameB k body).length = body.length + 11 := by simp [frameB, headB_length, fixedB_length]; omega

/-- What is taken off a frame: the kind, the body, what is wrong. -/
def openB (l : List UInt8) : UInt8 × List UInt8 × Nat :=
  if l.length < 11 ∨ l[0]? ≠ some 97 ∨ l[1]? ≠ some 98 then (0, [], 14)
  else if 16777216 < leNat ((l.drop 3).take 4) then (0, [], 14)
  else if l.length - 11 < leNat ((l.drop 3).take 4) then (0, [], 10)
  else if leNat ((l.drop 3).take 4) < l.length - 11 then (0, [], 13)
  else if (l.drop 7).take 4 ≠ fixedB 4 (sumB ((l.drop 2).take 5 ++ l.drop 11)) then (0, [], 15)
  else (l.getD 2 0, l.drop 11, 0)

end Go.AB

/- The sum tells a change of at most four neighbouring bytes. No program in sight. -/
namespace Go.AB
open Go.RowKit

theorem xor_cancel_r {a b c : Nat} (h : a ^^^ c = b ^^^ c) : a = b := by
  have := congrArg (· ^^^ c) h
  simpa [Nat.xor_assoc] using this
theorem xor_cancel_l {a b c : Nat} (h : c ^^^ a = c ^^^ b) : a = b := xor_cancel_r (c := c) (by rwa [Nat.xor_comm a, Nat.xor_comm b])
theorem crcBit_top {c : Nat} (h : c < 4294967296) : (crcBit c).testBit 31 = decide (c % 2 = 1) := by
  have hd : (c / 2).testBit 31 = false := Nat.testBit_lt_two_pow (by omega)
  unfold crcBit
  split
  · rename_i h1
    rw [Nat.testBit_xor, hd, decide_eq_true h1]
    decide
  · rename_i h1
    rw [hd]
    simp; omega
theorem crcBit_inj {a b : Nat} (ha : a < 4294967296) (hb : b < 4294967296) (h : crcBit a = crcBit b) : a = b := by
  have h1 := crcBit_top ha
  have h2 := crcBit_top hb
  rw [h, h2] at h1
  have h3 : (a % 2 = 1) ↔ (b % 2 = 1) := by simpa using h1.symm
  unfold crcBit at h
  by_cases hp : a % 2 = 1
  · rw [if_pos hp, if_pos (h3.1 hp)] at h
    have := xor_cancel_r h
    have := h3.1 hp
    omega
  · rw [if_neg hp, if_neg (fun e => hp (h3.2 e))] at h
    have h5 : ¬ b % 2 = 1 := fun e => hp (h3.2 e)
    omega
theorem crcBits_inj (q : Nat) : ∀ {a b : Nat}, a < 4294967296 → b < 4294967296 → crcBits q a = crcBits q b → a = b := by
  induction q with
  | zero => intro a b _ _ h; exact h
  | succ q ih => intro a b ha hb h; exact ih ha hb (crcBit_inj (crcBits_lt q ha) (crcBits_lt q hb) h)
theorem crcBit_shift (a b : Nat) : crcBit (a ^^^ (b <<< 1)) = crcBit a ^^^ b := by
  have h1 : (a ^^^ (b <<< 1)) % 2 = a % 2 := by
    have h := Nat.xor_mod_two_pow (a := a) (b := b <<< 1) (n := 1)
    rw [show (b <<< 1) % 2 ^ 1 = 0 from by rw [Nat.shiftLeft_eq]; omega, Nat.xor_zero] at h
    exact h
  have h2 : (a ^^^ (b <<< 1)) / 2 = a / 2 ^^^ b := by
    have h := Nat.shiftRight_xor_distrib (a := a) (b := b <<< 1) (i := 1)
    rw [Nat.shiftRight_eq_div_pow, Nat.shiftRight_eq_div_pow, Nat.shiftRight_eq_div_pow, Nat.shiftLeft_eq, show 2 ^ 1 = 2 from rfl, Nat.mul_div_cancel _ (by decide)] at h
    rw [Nat.shiftLeft_eq]
    exact h
  unfold crcBit
  rw [h1, h2]
  split
  · rw [Nat.xor_assoc, Nat.xor_comm b, ← Nat.xor_assoc]
  · rfl
theorem crcBits_shift (q : Nat) : ∀ a b, crcBits q (a ^^^ (b <<< q)) = crcBits q a ^^^ b := by
  induction q with
  | zero => intro a b; rfl
  | succ q ih =>
    intro a b
    have e : b <<< (q + 1) = (b <<< 1) <<< q := by rw [← Nat.shiftLeft_add, Nat.add_comm]
    show crcBit (crcBits q _) = crcBit (crcBits q a) ^^^ b
    rw [e, ih, crcBit_shift]
theorem crcBits_add (m n c : Nat) : crcBits (m + n) c = crcBits m (crcBits n c) := by
  induction m with
  | zero => rw [Nat.zero_add]; rfl
  | succ m ih => rw [Nat.succ_add]; show crcBit _ = crcBit _; rw [ih]
def packB : List UInt8 → Nat
  | [] => 0
  | x :: l => x.toNat ^^^ (packB l <<< 8)
theorem crcSum_pack (l : List UInt8) : ∀ c, crcSum c l = crcBits (8 * l.length) (c ^^^ packB l) := by
  induction l with
  | nil => intro c; simp [crcSum, packB, crcBits]
  | cons x l ih =>
    intro c
    have h1 : crcSum c (x :: l) = crcSum (crcBits 8 (c ^^^ x.toNat)) l := rfl
    rw [h1, ih, ← crcBits_shift 8, List.length_cons, Nat.mul_succ, crcBits_add, packB, Nat.xor_assoc]
theorem packB_split (x : UInt8) (l : List UInt8) : packB (x :: l) % 256 = x.toNat ∧ packB (x :: l) / 256 = packB l := by
  have hx := x.toNat_lt
  have h := Nat.xor_mod_two_pow (a := x.toNat) (b := packB l <<< 8) (n := 8)
  rw [show (packB l <<< 8) % 2 ^ 8 = 0 from by rw [Nat.shiftLeft_eq]; omega, Nat.xor_zero, show 2 ^ 8 = 256 from rfl] at h
  have h2 := Nat.shiftRight_xor_distrib (a := x.toNat) (b := packB l <<< 8) (i := 8)
  rw [show x.toNat >>> 8 = 0 from by rw [Nat.shiftRight_eq_div_pow]; omega, Nat.shiftLeft_shiftRight, Nat.zero_xor, Nat.shiftRight_eq_div_pow] at h2
  have e : packB (x :: l) = x.toNat ^^^ (packB l <<< 8) := rfl
  rw [e]
  exact ⟨by rw [h]; omega, h2⟩
theorem packB_lt (l : List UInt8) : packB l < 256 ^ l.length := by
  induction l with
  | nil => simp [packB]
  | cons x l ih =>
    obtain ⟨h1, h2⟩ := packB_split x l
    have hx := x.toNat_lt
    rw [List.length_cons, Nat.pow_succ]
    omega
theorem packB_inj : ∀ {l m : List UInt8}, l.length = m.length → packB l = packB m → l = m
  | [], [], _, _ => rfl
  | x :: l, y :: m, hl, h => by
    obtain ⟨h1, h2⟩ := packB_split x l
    obtain ⟨h3, h4⟩ := packB_split y m
    rw [h] at h1 h2
    have e1 : x = y := UInt8.toNat_inj.1 (by omega)
    have e2 := packB_inj (l := l) (m := m) (by simpa using hl) (by omega)
    rw [e1, e2]
  | [], _ :: _, hl, _ => by simp at hl
  | _ :: _, [], hl, _ => by simp at hl
theorem crcSum_inj_state (l : List UInt8) {a b : Nat} (ha : a < 4294967296) (hb : b < 4294967296) (h : crcSum a l = crcSum b l) : a = b := by
  induction l generalizing a b with
  | nil => exact h
  | cons x l ih =>
    have h1 := ih (crcByte_lt ha x) (crcByte_lt hb x) h
    have h2 := crcBits_inj 8 (xor_lt32 a ha x) (xor_lt32 b hb x) h1
    exact xor_cancel_r h2
theorem crcSum_inj_part {l m : List UInt8} (hl : l.length = m.length) (h4 : l.length ≤ 4) {c : Nat} (hc : c < 4294967296) (h : crcSum c l = crcSum c m) : l = m := by
  rw [crcSum_pack, crcSum_pack, ← hl] at h
  have hp : ∀ k : List UInt8, k.length ≤ 4 → packB k < 4294967296 := fun k hk => Nat.lt_of_lt_of_le (packB_lt k) (by
    have := Nat.pow_le_pow_right (n := 256) (by decide) hk
    omega)
  have h1 := crcBits_inj _ (Nat.xor_lt_two_pow (n := 32) hc (hp l h4)) (Nat.xor_lt_two_pow (n := 32) hc (hp m (by omega))) h
  exact packB_inj hl (xor_cancel_l h1)
/-- A window of at most four bytes that differs: the sum differs. -/
theorem sumB_window {a l m z : List UInt8} (hl : l.length = m.length) (h4 : l.length ≤ 4) (h : sumB (a ++ l ++ z) = sumB (a ++ m ++ z)) : l = m := by
  unfold sumB at h
  have h1 := xor_cancel_r h
  rw [crcSum_append, crcSum_append, crcSum_append, crcSum_append] at h1
  have hc := crcSum_lt (c := 4294967295) a (by omega)
  exact crcSum_inj_part hl h4 hc (crcSum_inj_state z (crcSum_lt l hc) (crcSum_lt m hc) h1)
end Go.AB

/- What is opened is a frame; a frame that was turned is none. No program in sight. -/
namespace Go.AB
open Go.RowKit

theorem openB_err (l : List UInt8) (h : (openB l).2.2 ≠ 0) : (openB l).1 = 0 ∧ (openB l).2.1 = [] := by
  unfold openB at *
  repeat' split
  all_goals first | exact ⟨rfl, rfl⟩ | (exfalso; simp_all)
theorem headB_part (l : List UInt8) (h : 11 ≤ l.length) (hn : leNat ((l.drop 3).take 4) + 11 = l.length) : headB (l.getD 2 0) (l.drop 11).length = (l.drop 2).take 5 := by
  have e1 : fixedB 4 (l.drop 11).length = (l.drop 3).take 4 := by
    have h4 : ((l.drop 3).take 4).length = 4 := by simp; omega
    have := fixedB_leNat ((l.drop 3).take 4)
    rw [h4] at this
    rw [← this]
    congr 1
    simp; omega
  unfold headB
  have e2 : l.drop 2 = l[2] :: l.drop 3 := List.drop_eq_getElem_cons (show 2 < l.length by omega)
  rw [e1, e2, List.take_succ_cons]
  simp [List.getD, show 2 < l.length by omega]
theorem cut_parts (l : List UInt8) : l = l.take 2 ++ (l.drop 2).take 5 ++ (l.drop 7).take 4 ++ l.drop 11 := by
  have h1 : (l.drop 7).take 4 ++ l.drop 11 = l.drop 7 := by
    conv => rhs; rw [← List.take_append_drop 4 (l.drop 7), List.drop_drop]
  have h2 : (l.drop 2).take 5 ++ l.drop 7 = l.drop 2 := by
    conv => rhs; rw [← List.take_append_drop 5 (l.drop 2), List.drop_drop]
  rw [List.append_assoc, h1, List.append_assoc, h2, List.take_append_drop]
theorem openB_frame (l : List UInt8) (h : (openB l).2.2 = 0) : l = frameB (openB l).1 (openB l).2.1 := by
  unfold openB at *
  split at h
  · simp at h
  · rename_i h1
    rw [if_neg h1] at *
    split at h
    · simp at h
    · rename_i h2
      rw [if_neg h2] at *
      split at h
      · simp at h
      · rename_i h3
        rw [if_neg h3] at *
        split at h
        · simp at h
        · rename_i h4
          rw [if_neg h4] at *
          split at h
          · simp at h
          · rename_i h5
            rw [if_neg h5] at *
            simp only
            have hl : ¬ l.length < 11 := fun h => h1 (.inl h)
            have a0 : l[0]? = some 97 := Classical.not_not.1 fun h => h1 (.inr (.inl h))
            have a1 : l[1]? = some 98 := Classical.not_not.1 fun h => h1 (.inr (.inr h))
            have hs := Classical.not_not.1 h5
            have ht : l.take 2 = [97, 98] := by
              apply List.ext_getElem?
              intro i
              rw [List.getElem?_take]
              match i with
              | 0 => simpa using a0
              | 1 => simpa using a1
              | i + 2 => rw [if_neg (by omega)]; simp
            have hh := headB_part l (by omega) (by omega)
            conv => lhs; rw [cut_parts l]
            unfold frameB
            rw [hh, ht, hs]
theorem four_ex (l : List UInt8) (h : l.length = 4) : ∃ a b c d, l = [a, b, c, d] := by
  match l, h with
  | [a, b, c, d], _ => exact ⟨a, b, c, d, rfl⟩
/-- A frame, byte by byte at its head. -/
theorem frameB_cons (k : UInt8) (b : List UInt8) : ∃ x0 x1 x2 x3 y0 y1 y2 y3, fixedB 4 b.length = [x0, x1, x2, x3] ∧ fixedB 4 (sumB (k :: x0 :: x1 :: x2 :: x3 :: b)) = [y0, y1, y2, y3] ∧
    frameB k b = 97 :: 98 :: k :: x0 :: x1 :: x2 :: x3 :: y0 :: y1 :: y2 :: y3 :: b := by
  obtain ⟨x0, x1, x2, x3, hx⟩ := four_ex (fixedB 4 b.length) (fixedB_length _ _)
  obtain ⟨y0, y1, y2, y3, hy⟩ := four_ex (fixedB 4 (sumB (k :: x0 :: x1 :: x2 :: x3 :: b))) (fixedB_length _ _)
  refine ⟨x0, x1, x2, x3, y0, y1, y2, y3, hx, hy, ?_⟩
  have hh : headB k b.length = [k, x0, x1, x2, x3] := by unfold headB; rw [hx]
  unfold frameB
  rw [hh, show [k, x0, x1, x2, x3] ++ b = k :: x0 :: x1 :: x2 :: x3 :: b from rfl, hy]
  rfl
theorem openB_of_frame (k : UInt8) (b : List UInt8) (h : b.length ≤ 16777216) : openB (frameB k b) = (k, b, 0) := by
  obtain ⟨x0, x1, x2, x3, y0, y1, y2, y3, hx, hy, hf⟩ := frameB_cons k b
  have hn : leNat [x0, x1, x2, x3] = b.length := by rw [← hx, leNat_fixedB, Nat.mod_eq_of_lt (by omega)]
  rw [hf]
  unfold openB
  have e1 : ((97 :: 98 :: k :: x0 :: x1 :: x2 :: x3 :: y0 :: y1 :: y2 :: y3 :: b).drop 3).take 4 = [x0, x1, x2, x3] := rfl
  have e2 : ((97 :: 98 :: k :: x0 :: x1 :: x2 :: x3 :: y0 :: y1 :: y2 :: y3 :: b).drop 7).take 4 = [y0, y1, y2, y3] := rfl
  have e3 : ((97 :: 98 :: k :: x0 :: x1 :: x2 :: x3 :: y0 :: y1 :: y2 :: y3 :: b).drop 2).take 5 = [k, x0, x1, x2, x3] := rfl
  have e4 : (97 :: 98 :: k :: x0 :: x1 :: x2 :: x3 :: y0 :: y1 :: y2 :: y3 :: b).drop 11 = b := rfl
  have e5 : (97 :: 98 :: k :: x0 :: x1 :: x2 :: x3 :: y0 :: y1 :: y2 :: y3 :: b).length = b.length + 11 := rfl
  rw [e1, e2, e3, e4, e5, hn]
  rw [if_neg (by simp), if_neg (by omega), if_neg (by omega), if_neg (by omega), if_neg (by rw [show [k, x0, x1, x2, x3] ++ b = k :: x0 :: x1 :: x2 :: x3 :: b from rfl, hy]; simp)]
  rfl
theorem sumB_of_bytes {l m : List UInt8} (h : fixedB 4 (sumB l) = fixedB 4 (sumB m)) : sumB l = sumB m := by
  have h1 := congrArg leNat h
  rw [leNat_fixedB, leNat_fixedB, Nat.mod_eq_of_lt (sumB_lt l), Nat.mod_eq_of_lt (sumB_lt m)] at h1
  exact h1
/-- Two frames of one kind whose bodies differ in a window of at most four bytes bear unlike sums. -/
theorem frame_window (k : UInt8) {a l m z : List UInt8} (hl : l.length = m.length) (h4 : l.length ≤ 4) {g : List UInt8} (hg : (openB g).2.2 = 0) (he : g = (frameB k (a ++ l ++ z)).take 11 ++ (a ++ m ++ z)) : l = m := by
  have hf := openB_frame g hg
  generalize (openB g).1 = k' at hf
  generalize (openB g).2.1 = b' at hf
  obtain ⟨x0, x1, x2, x3, y0, y1, y2, y3, hx, hy, hc⟩ := frameB_cons k (a ++ l ++ z)
  obtain ⟨u0, u1, u2, u3, v0, v1, v2, v3, hu, hv, hd⟩ := frameB_cons k' b'
  rw [hc] at he
  rw [hd] at hf
  rw [hf] at he
  have he' : 97 :: 98 :: k' :: u0 :: u1 :: u2 :: u3 :: v0 :: v1 :: v2 :: v3 :: b' = 97 :: 98 :: k :: x0 :: x1 :: x2 :: x3 :: y0 :: y1 :: y2 :: y3 :: (a ++ m ++ z) := he
  simp only [List.cons.injEq, true_and] at he'
  obtain ⟨rfl, rfl, rfl, rfl, rfl, rfl, rfl, rfl, rfl, rfl⟩ := he'
  rw [← hy] at hv
  have h1 := sumB_of_bytes hv
  have h2 : (k' :: u0 :: u1 :: u2 :: u3 :: a) ++ m ++ z = k' :: u0 :: u1 :: u2 :: u3 :: (a ++ m ++ z) := by simp
  have h3 : (k' :: u0 :: u1 :: u2 :: u3 :: a) ++ l ++ z = k' :: u0 :: u1 :: u2 :: u3 :: (a ++ l ++ z) := by simp
  rw [← h2, ← h3] at h1
  exact (sumB_window (hl.symm) (by omega) h1).symm
/-- One byte of a frame that is another: no frame. -/
theorem frame_one (k : UInt8) (b : List UInt8) (i : Nat) (y : UInt8) (hi : i < (frameB k b).length) (hg : (openB ((frameB k b).set i y)).2.2 = 0) : (frameB k b)[i] = y := by
  by_cases h11 : 11 ≤ i
  · have hb : i - 11 < b.length := by rw [frameB_length] at hi; omega
    obtain ⟨x0, x1, x2, x3, y0, y1, y2, y3, hx, hy, hc⟩ := frameB_cons k b
    have e0 : b = b.take (i - 11) ++ [b[i - 11]] ++ b.drop (i - 11 + 1) := by
      rw [List.append_assoc, List.singleton_append, ← List.drop_eq_getElem_cons hb, List.take_append_drop]
    have e1 : b.set (i - 11) y = b.take (i - 11) ++ [y] ++ b.drop (i - 11 + 1) := by
      rw [List.set_eq_take_append_cons_drop, if_pos hb]; simp
    have he : (frameB k b).set i y = (frameB k b).take 11 ++ b.set (i - 11) y := by
      rw [hc]
      obtain ⟨j, rfl⟩ : ∃ j, i = j + 11 := ⟨i - 11, by omega⟩
      simp
    have h1 := frame_window k (a := b.take (i - 11)) (l := [b[i - 11]]) (m := [y]) (z := b.drop (i - 11 + 1)) rfl (by simp) hg (by rw [← e0, ← e1]; exact he)
    have h2 : (frameB k b)[i] = b[i - 11] := by
      simp only [hc]
      obtain ⟨j, rfl⟩ : ∃ j, i = j + 11 := ⟨i - 11, by omega⟩
      simp
    rw [h2]
    simpa using h1
  · have hf := openB_frame _ hg
    generalize (openB ((frameB k b).set i y)).1 = k' at hf
    generalize (openB ((frameB k b).set i y)).2.1 = b' at hf
    clear hg
    obtain ⟨x0, x1, x2, x3, y0, y1, y2, y3, hx, hy, hc⟩ := frameB_cons k b
    obtain ⟨u0, u1, u2, u3, v0, v1, v2, v3, hu, hv, hd⟩ := frameB_cons k' b'
    rw [hd, hc] at hf
    simp only [hc]
    have hh : i = 0 ∨ i = 1 ∨ i = 2 ∨ i = 3 ∨ i = 4 ∨ i = 5 ∨ i = 6 ∨ i = 7 ∨ i = 8 ∨ i = 9 ∨ i = 10 := by omega
    rcases hh with rfl | rfl | rfl | rfl | rfl | rfl | rfl | rfl | rfl | rfl | rfl
    all_goals
      simp only [List.set_cons_succ, List.set_cons_zero, List.cons.injEq, true_and] at hf
      simp only [List.getElem_cons_succ, List.getElem_cons_zero]
    · exact hf.1.symm
    · exact hf.1.symm
    · obtain ⟨rfl, rfl, rfl, rfl, rfl, rfl, rfl, rfl, rfl, rfl⟩ := hf
      rw [← hy] at hv
      have h1 := sumB_of_bytes hv
      have := sumB_window (a := []) (l := [y]) (m := [k]) (z := x0 :: x1 :: x2 :: x3 :: b) rfl (by simp) h1
      simpa using this.symm
    all_goals
      obtain ⟨rfl, rfl, rfl, rfl, rfl, rfl, rfl, rfl, rfl, rfl⟩ := hf
      first
        | (rw [hx] at hu; simp only [List.cons.injEq, and_true] at hu; simp [hu]; done)
        | (rw [hy] at hv; simp only [List.cons.injEq, and_true] at hv; simp [hv]; done)
end Go.AB
