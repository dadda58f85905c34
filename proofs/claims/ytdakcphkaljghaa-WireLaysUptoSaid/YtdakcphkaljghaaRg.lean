/- Walks of the wire layer: the law's numbers of a width, taken. -/
import Derived.Test.YtdakcphkaljghaaRf
namespace Go.Proofs.Ytdakcphkaljghaa
open Go.RowKit Go.AB
theorem fx {A B : Int} (h : A = B) : Ending.returned (.tuple #[.int .u64 A, .bool true]) = .returned (.tuple #[.int .u64 B, .bool true]) := by rw [h]
theorem fx_wrap {z : Nat} (h : z < 18446744073709551616) : IntKind.u64.wrap (z : Int) = (z : Int) := by rw [IntKind.wrap_u64]; omega
theorem fx_i8 {z : Nat} (h : z < 256) : IntKind.i8.wrap (z : Int) % 256 = (z : Int) := by
  simp only [IntKind.wrap, IntKind.bits, IntKind.signed]; simp; split <;> omega
theorem fx_i16 {z : Nat} (h : z < 65536) : IntKind.u16.wrap (IntKind.i16.wrap (z : Int)) = (z : Int) := by
  rw [IntKind.wrap_u16]; simp only [IntKind.wrap, IntKind.bits, IntKind.signed]; simp; split <;> omega
theorem fx_i32 {z : Nat} (h : z < 4294967296) : wrap32 (z : Int) % 4294967296 = (z : Int) := by unfold wrap32; omega
theorem fx_i64 {z : Nat} (h : z < 18446744073709551616) : IntKind.u64.wrap (wrap64 (z : Int)) = (z : Int) := by rw [IntKind.wrap_u64]; unfold wrap64; omega
theorem rFixed_lt (n : Nat) (l : List UInt8) (s : RS) : (rFixed n l s).1 < 256 ^ n := by
  unfold rFixed
  have h0 : 0 < 256 ^ n := Nat.pow_pos (by decide)
  repeat' split
  · exact h0
  · exact h0
  · have := leNat_lt ((l.drop s.pos).take n)
    refine Nat.lt_of_lt_of_le this (Nat.pow_le_pow_right (by decide) ?_)
    rw [List.length_take]; omega
section
variable {w : World} {b : Nat} {l : List UInt8} {ao : Option Addr} {cap pos wh bad : Nat} (hR : Rd 81 w b l ao cap pos wh bad)
include hR

theorem fixed_0 (hl : l.length ≤ 1099511627776) : Calls Try.prog 34 #[.pointer (some ⟨b, 0, none⟩), .int .i64 0] w (RdPost 81 w b l ao cap (.tuple #[.int .u64 (rFixed 1 l ⟨pos, wh, bad⟩).1, .bool true]) (rFixed 1 l ⟨pos, wh, bad⟩).2) := by
  have hz : (rFixed 1 l ⟨pos, wh, bad⟩).1 < 256 := rFixed_lt 1 l _
  obtain ⟨z, hze⟩ : ∃ z, rFixed 1 l ⟨pos, wh, bad⟩ = z := ⟨_, rfl⟩
  rw [hze] at hz ⊢
  have HZ := hid hz
  have HE := hid hze
  clear hz hze
  go_enter Try.func34, Try.ntmps34
  go_wp2_with (go_at_call 71; refine (take_i8_calls hR hl).mono ?_; rw [HE.out]; rintro e w1 ⟨rfl, hR2, hc2⟩)
  go_ret2
  refine ⟨fx ?_, hR2, hc2⟩
  have hz := HZ.out
  first | rfl | exact fx_wrap (by omega) | exact fx_i8 hz | exact fx_i16 hz | exact fx_i32 hz | exact fx_i64 hz | (rw [fx_i16 hz]; exact fx_wrap (by omega))

theorem fixed_1 (hl : l.length ≤ 1099511627776) : Calls Try.prog 34 #[.pointer (some ⟨b, 0, none⟩), .int .i64 1] w (RdPost 81 w b l ao cap (.tuple #[.int .u64 (rFixed 2 l ⟨pos, wh, bad⟩).1, .bool true]) (rFixed 2 l ⟨pos, wh, bad⟩).2) := by
  have hz : (rFixed 2 l ⟨pos, wh, bad⟩).1 < 65536 := rFixed_lt 2 l _
  obtain ⟨z, hze⟩ : ∃ z, rFixed 2 l ⟨pos, wh, bad⟩ = z := ⟨_, rfl⟩
  rw [hze] at hz ⊢
  have HZ := hid hz
  have HE := hid hze
  clear hz hze
  go_enter Try.func34, Try.ntmps34
  go_wp2_with (go_at_call 72; refine (take_i16_calls hR hl).mono ?_; rw [HE.out]; rintro e w1 ⟨rfl, hR2, hc2⟩)
  go_ret2
  refine ⟨fx ?_, hR2, hc2⟩
  have hz := HZ.out
  first | rfl | exact fx_wrap (by omega) | exact fx_i8 hz | exact fx_i16 hz | exact fx_i32 hz | exact fx_i64 hz | (rw [fx_i16 hz]; exact fx_wrap (by omega))

theorem fixed_2 (hl : l.length ≤ 1099511627776) : Calls Try.prog 34 #[.pointer (some ⟨b, 0, none⟩), .int .i64 2] w (RdPost 81 w b l ao cap (.tuple #[.int .u64 (rFixed 4 l ⟨pos, wh, bad⟩).1, .bool true]) (rFixed 4 l ⟨pos, wh, bad⟩).2) := by
  have hz : (rFixed 4 l ⟨pos, wh, bad⟩).1 < 4294967296 := rFixed_lt 4 l _
  obtain ⟨z, hze⟩ : ∃ z, rFixed 4 l ⟨pos, wh, bad⟩ = z := ⟨_, rfl⟩
  rw [hze] at hz ⊢
  have HZ := hid hz
  have HE := hid hze
  clear hz hze
  go_enter Try.func34, Try.ntmps34
  go_wp2_with (go_at_call 73; refine (take_i32_calls hR hl).mono ?_; rw [HE.out]; rintro e w1 ⟨rfl, hR2, hc2⟩)
  go_ret2
  refine ⟨fx ?_, hR2, hc2⟩
  have hz := HZ.out
  first | rfl | exact fx_wrap (by omega) | exact fx_i8 hz | exact fx_i16 hz | exact fx_i32 hz | exact fx_i64 hz | (rw [fx_i16 hz]; exact fx_wrap (by omega))

theorem fixed_3 (hl : l.length ≤ 1099511627776) : Calls Try.prog 34 #[.pointer (some ⟨b, 0, none⟩), .int .i64 3] w (RdPost 81 w b l ao cap (.tuple #[.int .u64 (rFixed 8 l ⟨pos, wh, bad⟩).1, .bool true]) (rFixed 8 l ⟨pos, wh, bad⟩).2) := by
  have hz : (rFixed 8 l ⟨pos, wh, bad⟩).1 < 18446744073709551616 := rFixed_lt 8 l _
  obtain ⟨z, hze⟩ : ∃ z, rFixed 8 l ⟨pos, wh, bad⟩ = z := ⟨_, rfl⟩
  rw [hze] at hz ⊢
  have HZ := hid hz
  have HE := hid hze
  clear hz hze
  go_enter Try.func34, Try.ntmps34
  go_wp2_with (go_at_call 74; refine (take_i64_calls hR hl).mono ?_; rw [HE.out]; rintro e w1 ⟨rfl, hR2, hc2⟩)
  go_ret2
  refine ⟨fx ?_, hR2, hc2⟩
  have hz := HZ.out
  first | rfl | exact fx_wrap (by omega) | exact fx_i8 hz | exact fx_i16 hz | exact fx_i32 hz | exact fx_i64 hz | (rw [fx_i16 hz]; exact fx_wrap (by omega))

theorem fixed_4 (hl : l.length ≤ 1099511627776) : Calls Try.prog 34 #[.pointer (some ⟨b, 0, none⟩), .int .i64 4] w (RdPost 81 w b l ao cap (.tuple #[.int .u64 (rFixed 1 l ⟨pos, wh, bad⟩).1, .bool true]) (rFixed 1 l ⟨pos, wh, bad⟩).2) := by
  have hz : (rFixed 1 l ⟨pos, wh, bad⟩).1 < 256 := rFixed_lt 1 l _
  obtain ⟨z, hze⟩ : ∃ z, rFixed 1 l ⟨pos, wh, bad⟩ = z := ⟨_, rfl⟩
  rw [hze] at hz ⊢
  have HZ := hid hz
  have HE := hid hze
  clear hz hze
  go_enter Try.func34, Try.ntmps34
  go_wp2_with (go_at_call 28; refine (take_u8_calls hR hl).mono ?_; rw [HE.out]; rintro e w1 ⟨rfl, hR2, hc2⟩)
  go_ret2
  refine ⟨fx ?_, hR2, hc2⟩
  have hz := HZ.out
  first | rfl | exact fx_wrap (by omega) | exact fx_i8 hz | exact fx_i16 hz | exact fx_i32 hz | exact fx_i64 hz | (rw [fx_i16 hz]; exact fx_wrap (by omega))

theorem fixed_5 (hl : l.length ≤ 1099511627776) : Calls Try.prog 34 #[.pointer (some ⟨b, 0, none⟩), .int .i64 5] w (RdPost 81 w b l ao cap (.tuple #[.int .u64 (rFixed 2 l ⟨pos, wh, bad⟩).1, .bool true]) (rFixed 2 l ⟨pos, wh, bad⟩).2) := by
  have hz : (rFixed 2 l ⟨pos, wh, bad⟩).1 < 65536 := rFixed_lt 2 l _
  obtain ⟨z, hze⟩ : ∃ z, rFixed 2 l ⟨pos, wh, bad⟩ = z := ⟨_, rfl⟩
  rw [hze] at hz ⊢
  have HZ := hid hz
  have HE := hid hze
  clear hz hze
  go_enter Try.func34, Try.ntmps34
  go_wp2_with (go_at_call 75; refine (take_u16_calls hR hl).mono ?_; rw [HE.out]; rintro e w1 ⟨rfl, hR2, hc2⟩)
  go_ret2
  refine ⟨fx ?_, hR2, hc2⟩
  have hz := HZ.out
  first | rfl | exact fx_wrap (by omega) | exact fx_i8 hz | exact fx_i16 hz | exact fx_i32 hz | exact fx_i64 hz | (rw [fx_i16 hz]; exact fx_wrap (by omega))

theorem fixed_6 (hl : l.length ≤ 1099511627776) : Calls Try.prog 34 #[.pointer (some ⟨b, 0, none⟩), .int .i64 6] w (RdPost 81 w b l ao cap (.tuple #[.int .u64 (rFixed 4 l ⟨pos, wh, bad⟩).1, .bool true]) (rFixed 4 l ⟨pos, wh, bad⟩).2) := by
  have hz : (rFixed 4 l ⟨pos, wh, bad⟩).1 < 4294967296 := rFixed_lt 4 l _
  obtain ⟨z, hze⟩ : ∃ z, rFixed 4 l ⟨pos, wh, bad⟩ = z := ⟨_, rfl⟩
  rw [hze] at hz ⊢
  have HZ := hid hz
  have HE := hid hze
  clear hz hze
  go_enter Try.func34, Try.ntmps34
  go_wp2_with (go_at_call 58; refine (take_u32_calls hR hl).mono ?_; rw [HE.out]; rintro e w1 ⟨rfl, hR2, hc2⟩)
  go_ret2
  refine ⟨fx ?_, hR2, hc2⟩
  have hz := HZ.out
  first | rfl | exact fx_wrap (by omega) | exact fx_i8 hz | exact fx_i16 hz | exact fx_i32 hz | exact fx_i64 hz | (rw [fx_i16 hz]; exact fx_wrap (by omega))

theorem fixed_7 (hl : l.length ≤ 1099511627776) : Calls Try.prog 34 #[.pointer (some ⟨b, 0, none⟩), .int .i64 7] w (RdPost 81 w b l ao cap (.tuple #[.int .u64 (rFixed 8 l ⟨pos, wh, bad⟩).1, .bool true]) (rFixed 8 l ⟨pos, wh, bad⟩).2) := by
  have hz : (rFixed 8 l ⟨pos, wh, bad⟩).1 < 18446744073709551616 := rFixed_lt 8 l _
  obtain ⟨z, hze⟩ : ∃ z, rFixed 8 l ⟨pos, wh, bad⟩ = z := ⟨_, rfl⟩
  rw [hze] at hz ⊢
  have HZ := hid hz
  have HE := hid hze
  clear hz hze
  go_enter Try.func34, Try.ntmps34
  go_wp2_with (go_at_call 76; refine (take_u64_calls hR hl).mono ?_; rw [HE.out]; rintro e w1 ⟨rfl, hR2, hc2⟩)
  go_ret2
  refine ⟨fx ?_, hR2, hc2⟩
  have hz := HZ.out
  first | rfl | exact fx_wrap (by omega) | exact fx_i8 hz | exact fx_i16 hz | exact fx_i32 hz | exact fx_i64 hz | (rw [fx_i16 hz]; exact fx_wrap (by omega))

theorem fixed_out (k : Int) (hk : k < 0 ∨ 8 ≤ k) : Calls Try.prog 34 #[.pointer (some ⟨b, 0, none⟩), .int .i64 k] w (RdPost 81 w b l ao cap (.tuple #[.int .u64 0, .bool false]) ⟨pos, wh, bad⟩) := by
  rcases hk with hk | hk
  all_goals
    go_enter Try.func34, Try.ntmps34
    go_wp2
    go_ret2
    exact ⟨rfl, hR, Chg.refl _ _⟩
theorem fixed_calls (hl : l.length ≤ 1099511627776) (k : Int) : Calls Try.prog 34 #[.pointer (some ⟨b, 0, none⟩), .int .i64 k] w (RdPost 81 w b l ao cap (.tuple #[.int .u64 (rWidth k l ⟨pos, wh, bad⟩).1, .bool (decide (0 ≤ k ∧ k < 8))]) (rWidth k l ⟨pos, wh, bad⟩).2) := by
  by_cases h : 0 ≤ k ∧ k < 8
  · obtain ⟨q, rfl⟩ := Int.eq_ofNat_of_zero_le h.1
    have hsz : sizeI (q : Int) = sizeOfW q := by unfold sizeI; rw [if_pos h]; rfl
    unfold rWidth
    rw [if_pos h, hsz, decide_eq_true h]
    match q, h with
    | 0, _ => exact fixed_0 hR hl
    | 1, _ => exact fixed_1 hR hl
    | 2, _ => exact fixed_2 hR hl
    | 3, _ => exact fixed_3 hR hl
    | 4, _ => exact fixed_4 hR hl
    | 5, _ => exact fixed_5 hR hl
    | 6, _ => exact fixed_6 hR hl
    | 7, _ => exact fixed_7 hR hl
    | q + 8, h => exact absurd h (by omega)
  · unfold rWidth
    rw [if_neg h, decide_eq_false h]
    exact fixed_out hR k (by omega)
end
end Go.Proofs.Ytdakcphkaljghaa
