/- Plain definitions for the wire layer: what is read. No program in sight. -/
import Derived.Test.YtdakcphkaljghaaWplain
namespace Go.AB
open Go.RowKit

/-- The short number that stands at the head: its value, how many bytes, what is wrong (0: nothing). i: how many bytes went before; f: how many may come. -/
def peekF : Nat → Nat → List UInt8 → Nat × Nat × Nat
  | 0, _, _ => (0, 0, 11)
  | _ + 1, _, [] => (0, 0, 10)
  | f + 1, i, b :: rest =>
    if (i = 9 ∧ 1 < b.toNat) ∨ (b.toNat = 0 ∧ 0 < i) then (0, 0, 11)
    else if b.toNat < 128 then (b.toNat, i + 1, 0)
    else if (peekF f (i + 1) rest).2.2 = 0 then (b.toNat - 128 + 128 * (peekF f (i + 1) rest).1, (peekF f (i + 1) rest).2.1, 0)
    else (0, 0, (peekF f (i + 1) rest).2.2)
def peekS (l : List UInt8) : Nat × Nat × Nat := peekF 10 0 l

theorem peekF_len : ∀ f i l, (peekF f i l).2.2 = 0 → i < (peekF f i l).2.1 ∧ (peekF f i l).2.1 ≤ i + l.length
  | 0, _, _, h => by simp [peekF] at h
  | f + 1, i, [], h => by simp [peekF] at h
  | f + 1, i, b :: rest, h => by
    unfold peekF at h ⊢
    split
    · rename_i h1; rw [if_pos h1] at h; simp at h
    · rename_i h1
      rw [if_neg h1] at h
      split
      · simp only [List.length_cons]; omega
      · rename_i h2
        rw [if_neg h2] at h
        split
        · rename_i h3
          have := peekF_len f (i + 1) rest h3
          simp only [List.length_cons]
          omega
        · rename_i h3
          rw [if_neg h3] at h
          exact absurd h h3
theorem peekF_lt : ∀ f i l, f + i ≤ 10 → (peekF f i l).1 < 2 ^ (64 - 7 * i)
  | 0, i, _, _ => by simp [peekF]; exact Nat.two_pow_pos _
  | f + 1, i, [], _ => by simp [peekF]; exact Nat.two_pow_pos _
  | f + 1, i, b :: rest, h => by
    unfold peekF
    have hb := b.toNat_lt
    split
    · exact Nat.two_pow_pos _
    · rename_i h1
      split
      · rename_i h2
        by_cases h9 : i = 9
        · subst h9
          simp only
          omega
        · exact Nat.lt_of_lt_of_le h2 (Nat.pow_le_pow_right (n := 2) (i := 7) (by decide) (by omega))
      · rename_i h2
        split
        · have hi : i ≠ 9 := fun h9 => h1 (.inl ⟨h9, by omega⟩)
          have := peekF_lt f (i + 1) rest (by omega)
          have e : 2 ^ (64 - 7 * i) = 128 * 2 ^ (64 - 7 * (i + 1)) := by
            rw [show 64 - 7 * i = (64 - 7 * (i + 1)) + 7 from by omega, Nat.pow_add]; omega
          simp only
          rw [e]
          omega
        · exact Nat.two_pow_pos _
theorem peekS_U64 (l : List UInt8) : U64 (peekS l).1 := peekF_lt 10 0 l (by omega)
theorem peekF_err : ∀ f i l, (peekF f i l).2.2 = 0 ∨ ((peekF f i l).1 = 0 ∧ (peekF f i l).2.1 = 0)
  | 0, _, _ => by simp [peekF]
  | f + 1, i, [] => by simp [peekF]
  | f + 1, i, b :: rest => by
    unfold peekF
    repeat' split
    all_goals simp

theorem pow128 (q : Nat) : 128 ^ q = 2 ^ (7 * q) := by rw [Nat.pow_mul]
theorem acc_step (x q acc : Nat) (h : acc < 128 ^ q) (hx : x < 256) (h9 : x % 128 * 2 ^ (7 * q) < 18446744073709551616) (hq : 128 ^ q < 18446744073709551616) :
    bits .or .u64 (acc : Int) (IntKind.u64.wrap (IntKind.u64.wrap (bits .and .u8 (x : Int) 127) * 2 ^ (7 * q))) = ((acc + 128 ^ q * (x % 128) : Nat) : Int) := by
  have e1 : bits .and .u8 (x : Int) 127 = ((x % 128 : Nat) : Int) := by
    rw [show (127 : Int) = ((127 : Nat) : Int) from rfl, u8_and_nat x 127 hx (by omega)]
    congr 1
    exact Nat.and_two_pow_sub_one_eq_mod x 7
  have e2 : IntKind.u64.wrap ((x % 128 : Nat) : Int) = ((x % 128 : Nat) : Int) := by rw [IntKind.wrap_u64]; omega
  have e3 : ((x % 128 : Nat) : Int) * 2 ^ (7 * q) = ((x % 128 * 2 ^ (7 * q) : Nat) : Int) := by push_cast; rfl
  rw [e1, e2, e3]
  generalize hy : x % 128 * 2 ^ (7 * q) = y at *
  have e4 : IntKind.u64.wrap (y : Int) = (y : Int) := by rw [IntKind.wrap_u64]; omega
  rw [e4, u64_or_nat _ _ (by omega) h9]
  congr 1
  rw [← hy, Nat.or_comm, ← Nat.shiftLeft_eq, ← Nat.shiftLeft_add_eq_or_of_lt (by rw [← pow128]; exact h), Nat.shiftLeft_eq, pow128, Nat.mul_comm, Nat.add_comm]

/-- A number of so many bytes, the lowest first. -/
def leNat : List UInt8 → Nat
  | [] => 0
  | b :: l => b.toNat + 256 * leNat l
theorem leNat_lt (l : List UInt8) : leNat l < 256 ^ l.length := by
  induction l with
  | nil => simp [leNat]
  | cons b l ih =>
    have := b.toNat_lt
    simp only [leNat, List.length_cons, Nat.pow_succ]
    omega

theorem or_gen (A y K L m k : Nat) (hK : K = 2 ^ m) (hL : L = 2 ^ k) (hy : y < L) (hb : (A * L + y) * K < 18446744073709551616) :
    bits .or .u64 ((A * (L * K) : Nat) : Int) ((y * K : Nat) : Int) = (((A * L + y) * K : Nat) : Int) := by
  have e : (A * L + y) * K = A * (L * K) + y * K := by rw [Nat.add_mul, Nat.mul_assoc]
  have hyk : y * K < 2 ^ (k + m) := by
    rw [Nat.pow_add, ← hL, ← hK]
    exact Nat.mul_lt_mul_of_pos_right hy (by rw [hK]; exact Nat.two_pow_pos _)
  rw [u64_or_nat _ _ (by omega) (by omega)]
  congr 1
  rw [e, hL, hK, ← Nat.pow_add, ← Nat.shiftLeft_eq A, ← hK, ← Nat.shiftLeft_add_eq_or_of_lt hyk]
theorem wrap_byte (x : UInt8) : IntKind.u64.wrap (x.toNat : Int) = (x.toNat : Int) := by have := x.toNat_lt; rw [IntKind.wrap_u64]; omega
theorem wrap_shift (x : UInt8) (K : Nat) (hK : K ≤ 72057594037927936) : IntKind.u64.wrap (IntKind.u64.wrap (x.toNat : Int) * (K : Int)) = ((x.toNat * K : Nat) : Int) := by
  have := x.toNat_lt
  have h : x.toNat * K ≤ 255 * 72057594037927936 := Nat.mul_le_mul (by omega) hK
  rw [wrap_byte, IntKind.wrap_u64, ← Int.natCast_mul]
  generalize x.toNat * K = y at *
  omega
theorem or_zero_u64 (y : Nat) (h : y < 18446744073709551616) : bits .or .u64 0 (y : Int) = (y : Int) := by
  rw [show (0 : Int) = ((0 : Nat) : Int) from rfl, u64_or_nat _ _ (by decide) h, Nat.zero_or]
section
variable (b0 b1 b2 b3 b4 b5 b6 b7 : UInt8)
theorem leNat_lt1 : (leNat [b0] : Int) % 256 = (leNat [b0] : Int) := by have := leNat_lt [b0]; simp only [List.length_cons, List.length_nil] at this; omega
theorem leNat_lt2 : IntKind.u16.wrap (leNat [b0, b1] : Int) = (leNat [b0, b1] : Int) := by have := leNat_lt [b0, b1]; simp only [List.length_cons, List.length_nil] at this; rw [IntKind.wrap_u16]; omega
theorem leNat_lt4 : (leNat [b0, b1, b2, b3] : Int) % 4294967296 = (leNat [b0, b1, b2, b3] : Int) := by have := leNat_lt [b0, b1, b2, b3]; simp only [List.length_cons, List.length_nil] at this; omega
theorem le1 : bits .or .u64 0 (IntKind.u64.wrap (b0.toNat : Int)) = (leNat [b0] : Int) := by
  have h0 := b0.toNat_lt
  rw [wrap_byte, or_zero_u64 _ (by omega)]
  simp [leNat]
theorem le2 : bits .or .u64 (bits .or .u64 0 (IntKind.u64.wrap (IntKind.u64.wrap (b1.toNat : Int) * 256))) (IntKind.u64.wrap (b0.toNat : Int)) = (leNat [b0, b1] : Int) := by
  have h0 := b0.toNat_lt
  have h1 := b1.toNat_lt
  have s1 := wrap_shift b1 256 (by decide)
  rw [show ((256 : Nat) : Int) = 256 from rfl] at s1
  rw [s1, or_zero_u64 _ (by omega), wrap_byte]
  have s2 := or_gen b1.toNat b0.toNat 1 256 0 8 rfl rfl (by omega) (by omega)
  simp only [Nat.mul_one] at s2
  rw [s2]
  congr 1
  simp only [leNat]
  omega
theorem le4 : bits .or .u64 (bits .or .u64 (bits .or .u64 0 (bits .or .u64 (IntKind.u64.wrap (IntKind.u64.wrap (b3.toNat : Int) * 16777216)) (IntKind.u64.wrap (IntKind.u64.wrap (b2.toNat : Int) * 65536))))
      (IntKind.u64.wrap (IntKind.u64.wrap (b1.toNat : Int) * 256))) (IntKind.u64.wrap (b0.toNat : Int)) = (leNat [b0, b1, b2, b3] : Int) := by
  have h0 := b0.toNat_lt
  have h1 := b1.toNat_lt
  have h2 := b2.toNat_lt
  have h3 := b3.toNat_lt
  have s1 := wrap_shift b1 256 (by decide)
  have s2 := wrap_shift b2 65536 (by decide)
  have s3 := wrap_shift b3 16777216 (by decide)
  rw [show ((256 : Nat) : Int) = 256 from rfl] at s1
  rw [show ((65536 : Nat) : Int) = 65536 from rfl] at s2
  rw [show ((16777216 : Nat) : Int) = 16777216 from rfl] at s3
  rw [s1, s2, s3, wrap_byte]
  have t1 := or_gen b3.toNat b2.toNat 65536 256 16 8 rfl rfl (by omega) (by omega)
  rw [show 256 * 65536 = 16777216 from rfl] at t1
  rw [t1, or_zero_u64 _ (by omega)]
  have t2 := or_gen (b3.toNat * 256 + b2.toNat) b1.toNat 256 256 8 8 rfl rfl (by omega) (by omega)
  rw [show 256 * 256 = 65536 from rfl] at t2
  rw [t2]
  have t3 := or_gen ((b3.toNat * 256 + b2.toNat) * 256 + b1.toNat) b0.toNat 1 256 0 8 rfl rfl (by omega) (by omega)
  simp only [Nat.mul_one] at t3
  rw [t3]
  congr 1
  simp only [leNat]
  omega
theorem le8 : bits .or .u64 (bits .or .u64 (bits .or .u64 (bits .or .u64 0 (bits .or .u64 (bits .or .u64 (bits .or .u64 (IntKind.u64.wrap (IntKind.u64.wrap (b7.toNat : Int) * 72057594037927936)) (IntKind.u64.wrap (IntKind.u64.wrap (b6.toNat : Int) * 281474976710656)))
        (IntKind.u64.wrap (IntKind.u64.wrap (b5.toNat : Int) * 1099511627776))) (IntKind.u64.wrap (IntKind.u64.wrap (b4.toNat : Int) * 4294967296))))
      (bits .or .u64 (IntKind.u64.wrap (IntKind.u64.wrap (b3.toNat : Int) * 16777216)) (IntKind.u64.wrap (IntKind.u64.wrap (b2.toNat : Int) * 65536))))
      (IntKind.u64.wrap (IntKind.u64.wrap (b1.toNat : Int) * 256))) (IntKind.u64.wrap (b0.toNat : Int)) = (leNat [b0, b1, b2, b3, b4, b5, b6, b7] : Int) := by
  have h0 := b0.toNat_lt
  have h1 := b1.toNat_lt
  have h2 := b2.toNat_lt
  have h3 := b3.toNat_lt
  have h4 := b4.toNat_lt
  have h5 := b5.toNat_lt
  have h6 := b6.toNat_lt
  have h7 := b7.toNat_lt
  have s1 := wrap_shift b1 256 (by decide)
  have s2 := wrap_shift b2 65536 (by decide)
  have s3 := wrap_shift b3 16777216 (by decide)
  have s4 := wrap_shift b4 4294967296 (by decide)
  have s5 := wrap_shift b5 1099511627776 (by decide)
  have s6 := wrap_shift b6 281474976710656 (by decide)
  have s7 := wrap_shift b7 72057594037927936 (by decide)
  rw [show ((256 : Nat) : Int) = 256 from rfl] at s1
  rw [show ((65536 : Nat) : Int) = 65536 from rfl] at s2
  rw [show ((16777216 : Nat) : Int) = 16777216 from rfl] at s3
  rw [show ((4294967296 : Nat) : Int) = 4294967296 from rfl] at s4
  rw [show ((1099511627776 : Nat) : Int) = 1099511627776 from rfl] at s5
  rw [show ((281474976710656 : Nat) : Int) = 281474976710656 from rfl] at s6
  rw [show ((72057594037927936 : Nat) : Int) = 72057594037927936 from rfl] at s7
  rw [s1, s2, s3, s4, s5, s6, s7, wrap_byte]
  clear s1 s2 s3 s4 s5 s6 s7
  have t1 := or_gen b7.toNat b6.toNat 281474976710656 256 48 8 rfl rfl (by omega) (by omega)
  rw [show 256 * 281474976710656 = 72057594037927936 from rfl] at t1
  rw [t1]
  have t2 := or_gen (b7.toNat * 256 + b6.toNat) b5.toNat 1099511627776 256 40 8 rfl rfl (by omega) (by omega)
  rw [show 256 * 1099511627776 = 281474976710656 from rfl] at t2
  rw [t2]
  have t3 := or_gen ((b7.toNat * 256 + b6.toNat) * 256 + b5.toNat) b4.toNat 4294967296 256 32 8 rfl rfl (by omega) (by omega)
  rw [show 256 * 4294967296 = 1099511627776 from rfl] at t3
  rw [t3, or_zero_u64 _ (by omega)]
  have t4 := or_gen b3.toNat b2.toNat 65536 256 16 8 rfl rfl (by omega) (by omega)
  rw [show 256 * 65536 = 16777216 from rfl] at t4
  rw [t4]
  have t5 := or_gen (((b7.toNat * 256 + b6.toNat) * 256 + b5.toNat) * 256 + b4.toNat) (b3.toNat * 256 + b2.toNat) 65536 65536 16 16 rfl rfl (by omega) (by omega)
  rw [show 65536 * 65536 = 4294967296 from rfl] at t5
  rw [t5]
  have t6 := or_gen ((((b7.toNat * 256 + b6.toNat) * 256 + b5.toNat) * 256 + b4.toNat) * 65536 + (b3.toNat * 256 + b2.toNat)) b1.toNat 256 256 8 8 rfl rfl (by omega) (by omega)
  rw [show 256 * 256 = 65536 from rfl] at t6
  rw [t6]
  have t7 := or_gen (((((b7.toNat * 256 + b6.toNat) * 256 + b5.toNat) * 256 + b4.toNat) * 65536 + (b3.toNat * 256 + b2.toNat)) * 256 + b1.toNat) b0.toNat 1 256 0 8 rfl rfl (by omega) (by omega)
  simp only [Nat.mul_one] at t7
  rw [t7]
  congr 1
  simp only [leNat]
  omega
end

/-- Where a reader stands: the place, the fault's place and number. -/
structure RS where
  pos : Nat
  wh : Nat
  bad : Nat
def RS.fails (s : RS) (e : Nat) : RS := { s with wh := s.pos, bad := e }
def rFixed (n : Nat) (l : List UInt8) (s : RS) : Nat × RS :=
  if s.bad ≠ 0 then (0, s) else if l.length - s.pos < n then (0, s.fails 10) else (leNat ((l.drop s.pos).take n), { s with pos := s.pos + n })
def rShort (most : Nat) (l : List UInt8) (s : RS) : Nat × RS :=
  if s.bad ≠ 0 then (0, s)
  else if (peekS (l.drop s.pos)).2.2 ≠ 0 then (0, s.fails (peekS (l.drop s.pos)).2.2)
  else if most < (peekS (l.drop s.pos)).1 then (0, s.fails 12)
  else ((peekS (l.drop s.pos)).1, { s with pos := s.pos + (peekS (l.drop s.pos)).2.1 })
/-- A width that is none takes nothing. -/
def rWidth (k : Int) (l : List UInt8) (s : RS) : Nat × RS := if 0 ≤ k ∧ k < 8 then rFixed (sizeI k) l s else (0, s)
/-- A short number as a signed one. -/
def unzig (v : Nat) : Int := if v % 2 = 1 then -((v / 2 : Nat) : Int) - 1 else ((v / 2 : Nat) : Int)
theorem xor_i64_zero (m : Nat) (h : m < 9223372036854775808) : bits .xor .i64 (m : Int) 0 = (m : Int) := by
  have e : (BitVec.ofInt 64 (m : Int) ^^^ BitVec.ofInt 64 0).toNat = m := by
    rw [show BitVec.ofInt 64 0 = 0#64 from rfl, BitVec.xor_zero, BitVec.toNat_ofInt]
    omega
  show IntKind.i64.wrap (((BitVec.ofInt 64 (m : Int) ^^^ BitVec.ofInt 64 0).toNat : Nat) : Int) = _
  rw [e, IntKind.wrap_i64]
  omega
theorem xor_i64_ones (m : Nat) (h : m < 9223372036854775808) : bits .xor .i64 (m : Int) (-1) = -(m : Int) - 1 := by
  have e : (BitVec.ofInt 64 (m : Int) ^^^ BitVec.ofInt 64 (-1)).toNat = 18446744073709551615 - m := by
    rw [show BitVec.ofInt 64 (-1) = BitVec.allOnes 64 from by decide, BitVec.xor_allOnes, BitVec.toNat_not, BitVec.toNat_ofInt]
    omega
  show IntKind.i64.wrap (((BitVec.ofInt 64 (m : Int) ^^^ BitVec.ofInt 64 (-1)).toNat : Nat) : Int) = _
  rw [e, IntKind.wrap_i64]
  omega
theorem unzig_i64 {v : Nat} (h : U64 v) : bits .xor .i64 (wrap64 ((v : Int) / 2)) (wrap64 (-wrap64 (bits .and .u64 (v : Int) 1))) = unzig v := by
  have h' := h.out
  have e1 : wrap64 ((v : Int) / 2) = ((v / 2 : Nat) : Int) := by rw [IntWalk.wrap64_in _ (by omega)]; omega
  have e2 : bits .and .u64 (v : Int) 1 = ((v % 2 : Nat) : Int) := by
    rw [show (1 : Int) = ((1 : Nat) : Int) from rfl, u64_and_nat v 1 h' (by omega), Nat.and_one_is_mod]
  rw [e1, e2]
  unfold unzig
  rcases Nat.mod_two_eq_zero_or_one v with h0 | h0
  · rw [h0, if_neg (by omega), show wrap64 (-wrap64 ((0 : Nat) : Int)) = 0 from by simp [wrap64], xor_i64_zero _ (by omega)]
  · rw [h0, if_pos rfl, show wrap64 (-wrap64 ((1 : Nat) : Int)) = -1 from by simp [wrap64], xor_i64_ones _ (by omega)]
theorem rShort_U64 (most : Nat) (l : List UInt8) (s : RS) : U64 (rShort most l s).1 := by
  unfold rShort
  repeat' split
  all_goals first | exact peekS_U64 _ | (show (0 : Nat) < 18446744073709551616; decide)
def rSigned (l : List UInt8) (s : RS) : Int × RS := (unzig (rShort 18446744073709551615 l s).1, (rShort 18446744073709551615 l s).2)
def rFlag (l : List UInt8) (s : RS) : Bool × RS :=
  if s.bad ≠ 0 then (false, s)
  else match l.drop s.pos with
    | [] => (false, s.fails 10)
    | b :: _ => if 1 < b.toNat then (false, s.fails 11) else (b == 1, { s with pos := s.pos + 1 })
def rText (most : Int) (l : List UInt8) (s : RS) : List UInt8 × RS :=
  if s.bad ≠ 0 then ([], s)
  else if (peekS (l.drop s.pos)).2.2 ≠ 0 then ([], s.fails (peekS (l.drop s.pos)).2.2)
  else if most.toNat < (peekS (l.drop s.pos)).1 then ([], s.fails 12)
  else if l.length - (s.pos + (peekS (l.drop s.pos)).2.1) < (peekS (l.drop s.pos)).1 then ([], s.fails 10)
  else (((l.drop (s.pos + (peekS (l.drop s.pos)).2.1)).take (peekS (l.drop s.pos)).1), { s with pos := s.pos + (peekS (l.drop s.pos)).2.1 + (peekS (l.drop s.pos)).1 })
theorem wrap_max (most : Int) (h : I64 most) : IntKind.u64.wrap (max 0 most) = ((most.toNat : Nat) : Int) := by
  unfold I64 at h
  rw [IntKind.wrap_u64]; omega
def rEnd (l : List UInt8) (s : RS) : Nat := if s.bad ≠ 0 then s.bad else if s.pos < l.length then 13 else 0
/-- The place lies in the bytes. -/
def RS.ok (s : RS) (l : List UInt8) : Prop := s.pos ≤ l.length

theorem peekS_pos (l : List UInt8) (p : Nat) (hp : p ≤ l.length) (h : (peekS (l.drop p)).2.2 = 0) : p + (peekS (l.drop p)).2.1 ≤ l.length := by
  have := (peekF_len 10 0 (l.drop p) h).2
  rw [List.length_drop] at this
  unfold peekS
  omega
theorem rFixed_ok {n : Nat} {l : List UInt8} {s : RS} (h : s.ok l) : (rFixed n l s).2.ok l := by
  unfold rFixed RS.ok at *
  repeat' split
  all_goals simp only [RS.fails]; omega
theorem rShort_ok {n : Nat} {l : List UInt8} {s : RS} (h : s.ok l) : (rShort n l s).2.ok l := by
  unfold rShort RS.ok at *
  repeat' split
  all_goals simp only [RS.fails]
  all_goals first | omega | skip
  rename_i h1 h2 h3
  exact peekS_pos l s.pos h (by omega)
theorem rFlag_ok {l : List UInt8} {s : RS} (h : s.ok l) : (rFlag l s).2.ok l := by
  unfold rFlag RS.ok at *
  split
  · exact h
  · split
    · exact h
    · rename_i b t he
      have := congrArg List.length he
      rw [List.length_drop, List.length_cons] at this
      split
      · exact h
      · simp only; omega
theorem rText_ok {n : Int} {l : List UInt8} {s : RS} (h : s.ok l) : (rText n l s).2.ok l := by
  unfold rText RS.ok at *
  repeat' split
  all_goals simp only [RS.fails]
  all_goals first | omega | skip
  rename_i h1 h2 h3 h4
  have := peekS_pos l s.pos h (by omega)
  omega
end Go.AB
