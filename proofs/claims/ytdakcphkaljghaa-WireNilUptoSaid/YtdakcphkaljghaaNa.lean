/- Walks of the wire layer: writers and readers that are not there. -/
import Derived.Test.YtdakcphkaljghaaWg
import Derived.Test.YtdakcphkaljghaaWh
import Derived.Test.YtdakcphkaljghaaRa
import Derived.Test.YtdakcphkaljghaaRf
import Derived.Test.YtdakcphkaljghaaLonly
namespace Go.Proofs.Ytdakcphkaljghaa
open Go.RowKit Go.AB
set_option linter.unusedSimpArgs false
set_option linter.unusedVariables false

/-- Nothing answered, nothing written but new memory. -/
def Quiet0 (w : World) (v : Value) (e : Ending) (w' : World) : Prop := e = .returned v ∧ Chg [] w w'
theorem nil_len (w : World) : Calls Try.prog 14 #[.pointer none] w fun e w' => e = .returned (.int .i64 0) ∧ w = w' := by
  go_enter Try.func14, Try.ntmps14
  go_wp2
  go_ret
  exact ⟨rfl, rfl⟩
theorem nil_bytes (w : World) : Calls Try.prog 16 #[.pointer none] w fun e w' => e = .returned (.slice none 0 0) ∧ w = w' := by
  go_enter Try.func16, Try.ntmps16
  go_wp2
  go_ret
  exact ⟨rfl, rfl⟩
theorem nil_wrong (w : World) : Calls Try.prog 61 #[.pointer none] w fun e w' => e = .returned (.bool true) ∧ w = w' := by
  go_enter Try.func61, Try.ntmps61
  go_wp2
  go_ret
  exact ⟨rfl, rfl⟩
theorem nil_at (w : World) : Calls Try.prog 43 #[.pointer none] w fun e w' => e = .returned (.int .i64 0) ∧ w = w' := by
  go_enter Try.func43, Try.ntmps43
  go_wp2
  go_ret
  exact ⟨rfl, rfl⟩
theorem nil_fault (w : World) : Calls Try.prog 42 #[.pointer none] w fun e w' => e = .returned (.tuple #[.int .i64 0, .int .i64 1]) ∧ w = w' := by
  go_enter Try.func42, Try.ntmps42
  go_wp2
  go_ret2
  exact ⟨rfl, rfl⟩
theorem nil_end (w : World) : Calls Try.prog 29 #[.pointer none] w fun e w' => e = .returned (.int .i64 1) ∧ Drew w w' := by
  go_enter Try.func29, Try.ntmps29
  go_wp2_with (go_at_call 42; refine (nil_fault _).mono ?_; rintro e w' ⟨rfl, rfl⟩)
  go_quiet (fail)
  go_wp2
  go_ret
  exact ⟨rfl, (by first | exact Drew.refl | exact Drew.refl.trans Drew.refl)⟩
theorem nil_short (ao : Option Addr) (n cap : Nat) (w : World) : Calls Try.prog 18 #[.pointer none, .slice ao n cap] w fun e w' => e = .returned (.tuple #[]) ∧ w = w' := by
  go_enter Try.func18, Try.ntmps18
  go_wp2
  first | exact bodyPost_ret (results_none (by rfl) _ _ _) rfl ⟨rfl, rfl⟩ | (go_end0; exact ⟨rfl, rfl⟩)
theorem nil_signed (ao : Option Addr) (n cap : Nat) (w : World) : Calls Try.prog 36 #[.pointer none, .slice ao n cap] w fun e w' => e = .returned (.tuple #[]) ∧ w = w' := by
  go_enter Try.func36, Try.ntmps36
  go_wp2
  first | exact bodyPost_ret (results_none (by rfl) _ _ _) rfl ⟨rfl, rfl⟩ | (go_end0; exact ⟨rfl, rfl⟩)
theorem nil_flag (t : Bool) (w : World) : Calls Try.prog 26 #[.pointer none, .bool t] w fun e w' => e = .returned (.tuple #[]) ∧ w = w' := by
  cases t
  all_goals
    go_enter Try.func26, Try.ntmps26
    go_wp2
    first | exact bodyPost_ret (results_none (by rfl) _ _ _) rfl ⟨rfl, rfl⟩ | (go_end0; exact ⟨rfl, rfl⟩)
theorem nil_text (s : ByteArray) (w : World) : Calls Try.prog 39 #[.pointer none, .string s] w fun e w' => e = .returned (.tuple #[]) ∧ w = w' := by
  go_enter Try.func39, Try.ntmps39
  go_wp2
  first | exact bodyPost_ret (results_none (by rfl) _ _ _) rfl ⟨rfl, rfl⟩ | (go_end0; exact ⟨rfl, rfl⟩)
theorem nil_put_i8 (ao : Option Addr) (n cap : Nat) (w : World) : Calls Try.prog 77 #[.pointer none, .slice ao n cap] w fun e w' => e = .returned (.tuple #[]) ∧ w = w' := by
  go_enter Try.func77, Try.ntmps77
  go_wp2
  exact bodyPost_ret (results_none (by rfl) _ _ _) rfl ⟨rfl, rfl⟩
theorem nil_take_i8 (w : World) : Calls Try.prog 71 #[.pointer none] w fun e w' => e = .returned (.int .i8 0) ∧ w = w' := by
  go_enter Try.func71, Try.ntmps71
  go_wp2_with (go_at_call 61; refine (nil_wrong _).mono ?_; rintro e w' ⟨rfl, rfl⟩)
  go_ret
  exact ⟨rfl, rfl⟩
theorem nil_fixed_0 (w : World) : Calls Try.prog 34 #[.pointer none, .int .i64 0] w fun e w' => e = .returned (.tuple #[.int .u64 0, .bool true]) ∧ w = w' := by
  go_enter Try.func34, Try.ntmps34
  go_wp2_with (go_at_call 71; refine (nil_take_i8 _).mono ?_; rintro e w1 ⟨rfl, rfl⟩)
  go_ret2
  exact ⟨by first | rfl | simp [IntKind.wrap_u64], rfl⟩
theorem nil_put_i16 (ao : Option Addr) (n cap : Nat) (w : World) : Calls Try.prog 78 #[.pointer none, .slice ao n cap] w fun e w' => e = .returned (.tuple #[]) ∧ w = w' := by
  go_enter Try.func78, Try.ntmps78
  go_wp2
  exact bodyPost_ret (results_none (by rfl) _ _ _) rfl ⟨rfl, rfl⟩
theorem nil_take_i16 (w : World) : Calls Try.prog 72 #[.pointer none] w fun e w' => e = .returned (.int .i16 0) ∧ w = w' := by
  go_enter Try.func72, Try.ntmps72
  go_wp2_with (go_at_call 61; refine (nil_wrong _).mono ?_; rintro e w' ⟨rfl, rfl⟩)
  go_ret
  exact ⟨rfl, rfl⟩
theorem nil_fixed_1 (w : World) : Calls Try.prog 34 #[.pointer none, .int .i64 1] w fun e w' => e = .returned (.tuple #[.int .u64 0, .bool true]) ∧ w = w' := by
  go_enter Try.func34, Try.ntmps34
  go_wp2_with (go_at_call 72; refine (nil_take_i16 _).mono ?_; rintro e w1 ⟨rfl, rfl⟩)
  go_ret2
  exact ⟨by first | rfl | simp [IntKind.wrap_u64], rfl⟩
theorem nil_put_i32 (ao : Option Addr) (n cap : Nat) (w : World) : Calls Try.prog 79 #[.pointer none, .slice ao n cap] w fun e w' => e = .returned (.tuple #[]) ∧ w = w' := by
  go_enter Try.func79, Try.ntmps79
  go_wp2
  exact bodyPost_ret (results_none (by rfl) _ _ _) rfl ⟨rfl, rfl⟩
theorem nil_take_i32 (w : World) : Calls Try.prog 73 #[.pointer none] w fun e w' => e = .returned (.int .i32 0) ∧ w = w' := by
  go_enter Try.func73, Try.ntmps73
  go_wp2_with (go_at_call 61; refine (nil_wrong _).mono ?_; rintro e w' ⟨rfl, rfl⟩)
  go_ret
  exact ⟨rfl, rfl⟩
theorem nil_fixed_2 (w : World) : Calls Try.prog 34 #[.pointer none, .int .i64 2] w fun e w' => e = .returned (.tuple #[.int .u64 0, .bool true]) ∧ w = w' := by
  go_enter Try.func34, Try.ntmps34
  go_wp2_with (go_at_call 73; refine (nil_take_i32 _).mono ?_; rintro e w1 ⟨rfl, rfl⟩)
  go_ret2
  exact ⟨by first | rfl | simp [IntKind.wrap_u64], rfl⟩
theorem nil_put_i64 (ao : Option Addr) (n cap : Nat) (w : World) : Calls Try.prog 80 #[.pointer none, .slice ao n cap] w fun e w' => e = .returned (.tuple #[]) ∧ w = w' := by
  go_enter Try.func80, Try.ntmps80
  go_wp2
  exact bodyPost_ret (results_none (by rfl) _ _ _) rfl ⟨rfl, rfl⟩
theorem nil_take_i64 (w : World) : Calls Try.prog 74 #[.pointer none] w fun e w' => e = .returned (.int .i64 0) ∧ w = w' := by
  go_enter Try.func74, Try.ntmps74
  go_wp2_with (go_at_call 61; refine (nil_wrong _).mono ?_; rintro e w' ⟨rfl, rfl⟩)
  go_ret
  exact ⟨rfl, rfl⟩
theorem nil_fixed_3 (w : World) : Calls Try.prog 34 #[.pointer none, .int .i64 3] w fun e w' => e = .returned (.tuple #[.int .u64 0, .bool true]) ∧ w = w' := by
  go_enter Try.func34, Try.ntmps34
  go_wp2_with (go_at_call 74; refine (nil_take_i64 _).mono ?_; rintro e w1 ⟨rfl, rfl⟩)
  go_ret2
  exact ⟨by first | rfl | simp [IntKind.wrap_u64], rfl⟩
theorem nil_put_u8 (ao : Option Addr) (n cap : Nat) (w : World) : Calls Try.prog 55 #[.pointer none, .slice ao n cap] w fun e w' => e = .returned (.tuple #[]) ∧ w = w' := by
  go_enter Try.func55, Try.ntmps55
  go_wp2
  exact bodyPost_ret (results_none (by rfl) _ _ _) rfl ⟨rfl, rfl⟩
theorem nil_take_u8 (w : World) : Calls Try.prog 28 #[.pointer none] w fun e w' => e = .returned (.int .u8 0) ∧ w = w' := by
  go_enter Try.func28, Try.ntmps28
  go_wp2_with (go_at_call 61; refine (nil_wrong _).mono ?_; rintro e w' ⟨rfl, rfl⟩)
  go_ret
  exact ⟨rfl, rfl⟩
theorem nil_fixed_4 (w : World) : Calls Try.prog 34 #[.pointer none, .int .i64 4] w fun e w' => e = .returned (.tuple #[.int .u64 0, .bool true]) ∧ w = w' := by
  go_enter Try.func34, Try.ntmps34
  go_wp2_with (go_at_call 28; refine (nil_take_u8 _).mono ?_; rintro e w1 ⟨rfl, rfl⟩)
  go_ret2
  exact ⟨by first | rfl | simp [IntKind.wrap_u64], rfl⟩
theorem nil_put_u16 (ao : Option Addr) (n cap : Nat) (w : World) : Calls Try.prog 81 #[.pointer none, .slice ao n cap] w fun e w' => e = .returned (.tuple #[]) ∧ w = w' := by
  go_enter Try.func81, Try.ntmps81
  go_wp2
  exact bodyPost_ret (results_none (by rfl) _ _ _) rfl ⟨rfl, rfl⟩
theorem nil_take_u16 (w : World) : Calls Try.prog 75 #[.pointer none] w fun e w' => e = .returned (.int .u16 0) ∧ w = w' := by
  go_enter Try.func75, Try.ntmps75
  go_wp2_with (go_at_call 61; refine (nil_wrong _).mono ?_; rintro e w' ⟨rfl, rfl⟩)
  go_ret
  exact ⟨rfl, rfl⟩
theorem nil_fixed_5 (w : World) : Calls Try.prog 34 #[.pointer none, .int .i64 5] w fun e w' => e = .returned (.tuple #[.int .u64 0, .bool true]) ∧ w = w' := by
  go_enter Try.func34, Try.ntmps34
  go_wp2_with (go_at_call 75; refine (nil_take_u16 _).mono ?_; rintro e w1 ⟨rfl, rfl⟩)
  go_ret2
  exact ⟨by first | rfl | simp [IntKind.wrap_u64], rfl⟩
theorem nil_put_u32 (ao : Option Addr) (n cap : Nat) (w : World) : Calls Try.prog 56 #[.pointer none, .slice ao n cap] w fun e w' => e = .returned (.tuple #[]) ∧ w = w' := by
  go_enter Try.func56, Try.ntmps56
  go_wp2
  exact bodyPost_ret (results_none (by rfl) _ _ _) rfl ⟨rfl, rfl⟩
theorem nil_take_u32 (w : World) : Calls Try.prog 58 #[.pointer none] w fun e w' => e = .returned (.int .u32 0) ∧ w = w' := by
  go_enter Try.func58, Try.ntmps58
  go_wp2_with (go_at_call 61; refine (nil_wrong _).mono ?_; rintro e w' ⟨rfl, rfl⟩)
  go_ret
  exact ⟨rfl, rfl⟩
theorem nil_fixed_6 (w : World) : Calls Try.prog 34 #[.pointer none, .int .i64 6] w fun e w' => e = .returned (.tuple #[.int .u64 0, .bool true]) ∧ w = w' := by
  go_enter Try.func34, Try.ntmps34
  go_wp2_with (go_at_call 58; refine (nil_take_u32 _).mono ?_; rintro e w1 ⟨rfl, rfl⟩)
  go_ret2
  exact ⟨by first | rfl | simp [IntKind.wrap_u64], rfl⟩
theorem nil_put_u64 (ao : Option Addr) (n cap : Nat) (w : World) : Calls Try.prog 82 #[.pointer none, .slice ao n cap] w fun e w' => e = .returned (.tuple #[]) ∧ w = w' := by
  go_enter Try.func82, Try.ntmps82
  go_wp2
  exact bodyPost_ret (results_none (by rfl) _ _ _) rfl ⟨rfl, rfl⟩
theorem nil_take_u64 (w : World) : Calls Try.prog 76 #[.pointer none] w fun e w' => e = .returned (.int .u64 0) ∧ w = w' := by
  go_enter Try.func76, Try.ntmps76
  go_wp2_with (go_at_call 61; refine (nil_wrong _).mono ?_; rintro e w' ⟨rfl, rfl⟩)
  go_ret
  exact ⟨rfl, rfl⟩
theorem nil_fixed_7 (w : World) : Calls Try.prog 34 #[.pointer none, .int .i64 7] w fun e w' => e = .returned (.tuple #[.int .u64 0, .bool true]) ∧ w = w' := by
  go_enter Try.func34, Try.ntmps34
  go_wp2_with (go_at_call 76; refine (nil_take_u64 _).mono ?_; rintro e w1 ⟨rfl, rfl⟩)
  go_ret2
  exact ⟨by first | rfl | simp [IntKind.wrap_u64], rfl⟩
theorem nil_fixed_out (k : Int) (hk : ¬ (0 ≤ k ∧ k < 8)) (w : World) : Calls Try.prog 34 #[.pointer none, .int .i64 k] w fun e w' => e = .returned (.tuple #[.int .u64 0, .bool false]) ∧ w = w' := by
  have hk' : k < 0 ∨ 8 ≤ k := by omega
  clear hk
  rcases hk' with hk | hk
  all_goals
    go_enter Try.func34, Try.ntmps34
    go_wp2
    go_ret2
    exact ⟨rfl, rfl⟩
theorem nil_fixed (k : Int) (w : World) : Calls Try.prog 34 #[.pointer none, .int .i64 k] w fun e w' => (∃ b, e = .returned (.tuple #[.int .u64 0, .bool b])) ∧ w = w' := by
  by_cases h : 0 ≤ k ∧ k < 8
  · obtain ⟨q, rfl⟩ := Int.eq_ofNat_of_zero_le h.1
    match q, h with
    | 0, _ => exact (nil_fixed_0 w).mono fun _ _ h => ⟨⟨_, h.1⟩, h.2⟩
    | 1, _ => exact (nil_fixed_1 w).mono fun _ _ h => ⟨⟨_, h.1⟩, h.2⟩
    | 2, _ => exact (nil_fixed_2 w).mono fun _ _ h => ⟨⟨_, h.1⟩, h.2⟩
    | 3, _ => exact (nil_fixed_3 w).mono fun _ _ h => ⟨⟨_, h.1⟩, h.2⟩
    | 4, _ => exact (nil_fixed_4 w).mono fun _ _ h => ⟨⟨_, h.1⟩, h.2⟩
    | 5, _ => exact (nil_fixed_5 w).mono fun _ _ h => ⟨⟨_, h.1⟩, h.2⟩
    | 6, _ => exact (nil_fixed_6 w).mono fun _ _ h => ⟨⟨_, h.1⟩, h.2⟩
    | 7, _ => exact (nil_fixed_7 w).mono fun _ _ h => ⟨⟨_, h.1⟩, h.2⟩
    | q + 8, h => exact absurd h (by omega)
  · exact (nil_fixed_out k h w).mono fun _ _ h => ⟨⟨_, h.1⟩, h.2⟩
theorem nil_rshort (m : Nat) (w : World) : Calls Try.prog 33 #[.pointer none, .int .u64 m] w fun e w' => e = .returned (.int .u64 0) ∧ w = w' := by
  go_enter Try.func33, Try.ntmps33
  go_wp2_with (go_at_call 61; refine (nil_wrong _).mono ?_; rintro e w' ⟨rfl, rfl⟩)
  go_ret
  exact ⟨rfl, rfl⟩
theorem nil_rsigned (w : World) : Calls Try.prog 37 #[.pointer none] w fun e w' => e = .returned (.int .i64 0) ∧ w = w' := by
  have hz : bits BinOp.and IntKind.u64 0 1 = 0 := by decide
  have hz2 : bits BinOp.xor IntKind.i64 0 0 = 0 := by decide
  go_enter Try.func37, Try.ntmps37
  go_wp2_with (go_at_call 33; refine (nil_rshort 18446744073709551615 _).mono ?_; rintro e w' ⟨rfl, rfl⟩)
  go_ret
  exact ⟨rfl, rfl⟩
theorem nil_rflag (w : World) : Calls Try.prog 38 #[.pointer none] w fun e w' => e = .returned (.bool false) ∧ w = w' := by
  go_enter Try.func38, Try.ntmps38
  go_wp2_with (go_at_call 61; refine (nil_wrong _).mono ?_; rintro e w' ⟨rfl, rfl⟩)
  go_ret
  exact ⟨rfl, rfl⟩
theorem nil_rtext (m : Int) (w : World) : Calls Try.prog 40 #[.pointer none, .int .i64 m] w fun e w' => e = .returned (.string ⟨#[]⟩) ∧ w = w' := by
  go_enter Try.func40, Try.ntmps40
  go_wp2_with (go_at_call 61; refine (nil_wrong _).mono ?_; rintro e w' ⟨rfl, rfl⟩)
  go_ret
  exact ⟨rfl, rfl⟩

set_option maxHeartbeats 1000000 in
set_option maxRecDepth 100000 in
theorem nothing_calls (kind width n : Int) (m : Nat) (w : World) : Calls Try.prog 41 #[.pointer none, .agg #[.int .i64 kind, .int .i64 width, .int .i64 n, .int .u64 m]] w fun e w' => e = .returned (.bool true) ∧ Chg [] w w' := by
  have hca := (Chg.refl [] w).alloc (.cells #[.int .i64 kind, .int .i64 width, .int .i64 n, .int .u64 m] 70)
  by_cases h1 : kind = 1
  · subst h1
    go_enter Try.func41, Try.ntmps41
    go_wp2_with (go_at_call 34; refine (nil_fixed width _).mono ?_; rintro e w' ⟨⟨bb, rfl⟩, rfl⟩)
    go_ret
    exact ⟨rfl, hca⟩
  by_cases h2 : kind = 2
  · subst h2
    go_enter Try.func41, Try.ntmps41
    go_wp2_with (go_at_call 33; refine (nil_rshort m _).mono ?_; rintro e w' ⟨rfl, rfl⟩)
    go_ret
    exact ⟨rfl, hca⟩
  by_cases h3 : kind = 3
  · subst h3
    go_enter Try.func41, Try.ntmps41
    go_wp2_with (go_at_call 37; refine (nil_rsigned _).mono ?_; rintro e w' ⟨rfl, rfl⟩)
    go_ret
    exact ⟨rfl, hca⟩
  by_cases h4 : kind = 4
  · subst h4
    go_enter Try.func41, Try.ntmps41
    go_wp2_with (go_at_call 38; refine (nil_rflag _).mono ?_; rintro e w' ⟨rfl, rfl⟩)
    go_ret
    exact ⟨rfl, hca⟩
  by_cases h5 : kind = 5
  · subst h5
    go_enter Try.func41, Try.ntmps41
    go_wp2_with (go_at_call 40; refine (nil_rtext n _).mono ?_; rintro e w' ⟨rfl, rfl⟩)
    go_ret
    exact ⟨rfl, hca⟩
  go_enter Try.func41, Try.ntmps41
  go_wp2
  go_ret
  exact ⟨rfl, hca⟩

section
variable (a : AddD) (v : Value) (w : World) (hv : View w 1 v a.many.length (a.many.map cU)) (hn : a.many.length ≤ 34359738000)
include hv hn
omit hv hn in
theorem put_of {f : Nat} {v : Value} {W w : World} (hc : Chg [] w W) (h : Calls Try.prog f #[.pointer none, v] W fun e w' => e = .returned (.tuple #[]) ∧ W = w') : Calls Try.prog f #[.pointer none, v] W fun e w' => e = .returned (.tuple #[]) ∧ Chg [] w w' :=
  h.mono fun e w' ⟨h1, h2⟩ => ⟨h1, h2 ▸ hc⟩
theorem nil_lawput (k : Int) : Calls Try.prog 35 #[.pointer none, .int .i64 k, v] w fun e w' => e = .returned (.tuple #[]) ∧ Chg [] w w' := by
  by_cases h : 0 ≤ k ∧ k < 8
  · obtain ⟨q, rfl⟩ := Int.eq_ofNat_of_zero_le h.1
    match q, h with
    | 0, _ => exact lawput_i8 _ a.many v w (Chg [] w) hv hn (fun W u hc hu _ => by obtain ⟨_, _, ao, cap, rfl, _⟩ := hu; exact put_of hc (nil_put_i8 _ _ _ W))
    | 1, _ => exact lawput_i16 _ a.many v w (Chg [] w) hv hn (fun W u hc hu _ => by obtain ⟨_, _, ao, cap, rfl, _⟩ := hu; exact put_of hc (nil_put_i16 _ _ _ W))
    | 2, _ => exact lawput_i32 _ a.many v w (Chg [] w) hv hn (fun W u hc hu _ => by obtain ⟨_, _, ao, cap, rfl, _⟩ := hu; exact put_of hc (nil_put_i32 _ _ _ W))
    | 3, _ => exact lawput_i64 _ a.many v w (Chg [] w) hv hn (fun W u hc hu _ => by obtain ⟨_, _, ao, cap, rfl, _⟩ := hu; exact put_of hc (nil_put_i64 _ _ _ W))
    | 4, _ => exact lawput_u8 _ a.many v w (Chg [] w) hv hn (fun W u hc hu _ => by obtain ⟨_, _, ao, cap, rfl, _⟩ := hu; exact put_of hc (nil_put_u8 _ _ _ W))
    | 5, _ => exact lawput_u16 _ a.many v w (Chg [] w) hv hn (fun W u hc hu _ => by obtain ⟨_, _, ao, cap, rfl, _⟩ := hu; exact put_of hc (nil_put_u16 _ _ _ W))
    | 6, _ => exact lawput_u32 _ a.many v w (Chg [] w) hv hn (fun W u hc hu _ => by obtain ⟨_, _, ao, cap, rfl, _⟩ := hu; exact put_of hc (nil_put_u32 _ _ _ W))
    | 7, _ => exact lawput_u64 _ v w (Chg [] w) (by obtain ⟨_, _, ao, cap, rfl, _⟩ := hv; exact put_of (Chg.refl _ _) (nil_put_u64 _ _ _ w))
    | q + 8, h => exact absurd h (by omega)
  · exact (lawput_out _ v k (by omega) w).mono fun e w' ⟨h1, h2⟩ => ⟨h1, h2 ▸ Chg.refl _ _⟩

set_option maxHeartbeats 1000000 in
set_option maxRecDepth 100000 in
theorem nil_lays : Calls Try.prog 12 #[.pointer none, addV a v] w fun e w' => e = .returned (.tuple #[]) ∧ Chg [] w w' := by
  obtain ⟨kind, width, many, text⟩ := a
  simp only at hv hn
  have hb : ∀ o, Chg [] w (w.alloc o) := fun o => (Chg.refl _ _).alloc o
  have hvv := fun o => hv.keep (hb o) (by simp)
  have hput := fun o k => nil_lawput ⟨kind, width, many, text⟩ v (w.alloc o) (hvv o) hn k
  obtain ⟨ao, cap, rfl⟩ : ∃ ao cap, v = .slice ao many.length cap := by obtain ⟨_, _, ao, cap, h, _⟩ := hv; exact ⟨ao, cap, h⟩
  unfold addV
  by_cases h1 : kind = 1
  · subst h1
    go_enter Try.func12, Try.ntmps12
    go_wp2_with (go_at_call 35; refine (hput _ _).mono ?_; rintro e w' ⟨rfl, hl2⟩)
    go_end0
    exact ⟨rfl, (hb _).trans' hl2⟩
  by_cases h2 : kind = 2
  · subst h2
    go_enter Try.func12, Try.ntmps12
    go_wp2_with (go_at_call 18; refine (nil_short _ _ _ _).mono ?_; rintro e w' ⟨rfl, rfl⟩)
    go_end0
    exact ⟨rfl, hb _⟩
  by_cases h3 : kind = 3
  · subst h3
    go_enter Try.func12, Try.ntmps12
    go_wp2_with (go_at_call 45; refine (numbers_calls many _ _ (hvv _) (by omega)).mono ?_; rintro e w1 ⟨u, r1, rfl, hr1, hc1, hf1⟩; obtain ⟨aou, capu, rfl⟩ := hr1.shape; refine halt (fun X hX => ?_))
    rw [hX.out]; clear hX
    go_wp2_with (go_at_call 36; refine (nil_signed _ _ _ _).mono ?_; rintro e w' ⟨rfl, rfl⟩)
    go_end0
    exact ⟨rfl, (hb _).trans' hc1⟩
  by_cases h4 : kind = 4
  · subst h4
    by_cases h0 : 0 < many.length
    all_goals
      go_enter Try.func12, Try.ntmps12
      go_wp2_with (go_at_call 26; refine (nil_flag _ _).mono ?_; rintro e w' ⟨rfl, rfl⟩)
      go_end0
      exact ⟨rfl, hb _⟩
  by_cases h5 : kind = 5
  · subst h5
    go_enter Try.func12, Try.ntmps12
    go_wp2_with (go_at_call 39; refine (nil_text _ _).mono ?_; rintro e w' ⟨rfl, rfl⟩)
    go_end0
    exact ⟨rfl, hb _⟩
  go_enter Try.func12, Try.ntmps12
  go_wp2
  go_end0
  exact ⟨rfl, hb _⟩
end
end Go.Proofs.Ytdakcphkaljghaa
