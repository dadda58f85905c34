/- The wire layer's plain laws: what was laid is taken off. No program in sight. -/
import Derived.Test.YtdakcphkaljghaaRlaw
namespace Go.AB
open Go.RowKit

theorem peekF_shortB : ∀ (f i v : Nat) (rest : List UInt8), f + i = 10 → v < 2 ^ (64 - 7 * i) → (0 < i → 0 < v) → peekF f i (shortB v ++ rest) = (v, i + (shortB v).length, 0)
  | 0, i, v, rest, h, hv, hp => by
    obtain rfl : i = 10 := by omega
    have := hp (by omega)
    simp at hv
    omega
  | f + 1, i, v, rest, h, hv, hp => by
    by_cases h128 : v < 128
    · rw [shortB_lt h128]
      have e : (UInt8.ofNat v).toNat = v := by simp; omega
      have c : ¬ ((i = 9 ∧ 1 < v) ∨ (v = 0 ∧ 0 < i)) := by
        rintro (⟨rfl, h1⟩ | ⟨rfl, h1⟩)
        · simp at hv; omega
        · have := hp h1; omega
      simp only [List.cons_append, List.nil_append, peekF, e, List.length_cons, List.length_nil]
      rw [if_neg c, if_pos h128]
    · rw [shortB_ge (by omega)]
      have e : (UInt8.ofNat (128 + v % 128)).toNat = 128 + v % 128 := by simp; omega
      have h9 : i ≠ 9 := fun h9 => by subst h9; simp at hv; omega
      have hi : i ≤ 8 := by
        rcases Nat.lt_or_ge 9 i with h10 | h10
        · obtain rfl : i = 10 := by omega
          simp at hv; omega
        · omega
      have ih := peekF_shortB f (i + 1) (v / 128) rest (by omega) (by
        rw [show 64 - 7 * i = (64 - 7 * (i + 1)) + 7 by omega, Nat.pow_add] at hv
        exact Nat.div_lt_of_lt_mul (by omega)) (fun _ => by omega)
      have c : ¬ ((i = 9 ∧ 1 < 128 + v % 128) ∨ (128 + v % 128 = 0 ∧ 0 < i)) := by omega
      simp only [List.cons_append, peekF, e]
      rw [if_neg c, if_neg (by omega), ih]
      simp only [if_true, List.length_cons]
      refine Prod.ext ?_ (Prod.ext ?_ rfl)
      · show 128 + v % 128 - 128 + 128 * (v / 128) = v; omega
      · show i + 1 + (shortB (v / 128)).length = i + ((shortB (v / 128)).length + 1); omega
theorem peekS_shortB {v : Nat} (hv : U64 v) (rest : List UInt8) : peekS (shortB v ++ rest) = (v, (shortB v).length, 0) := by
  have := peekF_shortB 10 0 v rest rfl hv (fun h => absurd h (by omega))
  simpa [peekS] using this
theorem leNat_fixedB (n : Nat) : ∀ m, leNat (fixedB n m) = m % 256 ^ n := by
  induction n with
  | zero => intro m; simp [fixedB, leNat, Nat.mod_one]
  | succ n ih =>
    intro m
    simp only [fixedB, leNat, ih]
    rw [Nat.pow_succ', Nat.mod_mul]
    have : (UInt8.ofNat m).toNat = m % 256 := by simp
    rw [this]
theorem unzig_zig {x : Int} : unzig (zig x) = x := by
  unfold unzig zig
  split
  · rw [if_pos (by omega)]; omega
  · rw [if_neg (by omega)]; omega

theorem flat_step {α : Type} (f : α → List UInt8) (xs : List α) (k : Nat) (h : k < xs.length) : xs.flatMap f = (xs.take k).flatMap f ++ f xs[k] ++ (xs.drop (k + 1)).flatMap f := by
  conv => lhs; rw [← List.take_append_drop k xs, List.drop_eq_getElem_cons h]
  rw [List.flatMap_append, List.flatMap_cons, List.append_assoc]

section
variable {L rest : List UInt8} {p wh : Nat}
theorem back_short {v m : Nat} (hv : U64 v) (hm : v ≤ m) (h : L.drop p = shortB v ++ rest) : rShort m L ⟨p, wh, 0⟩ = (v, ⟨p + (shortB v).length, wh, 0⟩) := by
  unfold rShort
  simp only [h, peekS_shortB hv]
  simp
  omega
theorem back_signed {x : Int} (hx : I64 x) (h : L.drop p = shortB (zig x) ++ rest) : rSigned L ⟨p, wh, 0⟩ = (x, ⟨p + (shortB (zig x)).length, wh, 0⟩) := by
  have hz := zig_U64 hx
  unfold rSigned
  rw [back_short hz (by have := hz.out; omega) h, unzig_zig]
theorem back_fixed {n m : Nat} (h : L.drop p = fixedB n m ++ rest) : rFixed n L ⟨p, wh, 0⟩ = (m % 256 ^ n, ⟨p + n, wh, 0⟩) := by
  have hl := congrArg List.length h
  rw [List.length_drop, List.length_append, fixedB_length] at hl
  unfold rFixed
  have h2 : ¬ (L.length - p < n) := by omega
  have h3 : (fixedB n m ++ rest).take n = fixedB n m := by
    have := List.take_left (l₁ := fixedB n m) (l₂ := rest)
    rwa [fixedB_length] at this
  simp only [h, h3, leNat_fixedB]
  simp [h2]
theorem back_flag {t : Bool} (h : L.drop p = [if t then 1 else 0] ++ rest) : rFlag L ⟨p, wh, 0⟩ = (t, ⟨p + 1, wh, 0⟩) := by
  unfold rFlag
  rw [if_neg (by simp)]
  simp only [h]
  cases t <;> simp
theorem back_text {s : List UInt8} {m : Int} (hs : U64 s.length) (hm : s.length ≤ m.toNat) (h : L.drop p = shortB s.length ++ s ++ rest) : rText m L ⟨p, wh, 0⟩ = (s, ⟨p + (shortB s.length ++ s).length, wh, 0⟩) := by
  have h' : L.drop p = shortB s.length ++ (s ++ rest) := by rw [h, List.append_assoc]
  have hd : L.drop (p + (shortB s.length).length) = s ++ rest := by rw [← List.drop_drop, h', List.drop_left]
  have hl := congrArg List.length hd
  rw [List.length_drop, List.length_append] at hl
  have h1 : ¬ (m.toNat < s.length) := by omega
  have h2 : ¬ (L.length - (p + (shortB s.length).length) < s.length) := by omega
  unfold rText
  simp only [h', peekS_shortB hs, hd]
  simp [h1, h2, Nat.add_assoc]
theorem back_next {x : List UInt8} (h : L.drop p = x ++ rest) : L.drop (p + x.length) = rest := by rw [← List.drop_drop, h, List.drop_left]
end
end Go.AB
