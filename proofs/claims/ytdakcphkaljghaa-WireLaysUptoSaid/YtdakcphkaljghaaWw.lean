/- Walks of the wire layer: the widths of the numbers. -/
import Derived.Test.YtdakcphkaljghaaWplain
import Derived.Test.YtdakcphkaljghaaRows
namespace Go.Proofs.Ytdakcphkaljghaa
open Go.RowKit Go.AB

set_option maxHeartbeats 400000 in
theorem width_u8 (w : World) : Calls Try.prog 62 #[] w fun e w' => e = .returned (.int .i64 1) ∧ w = w' := by
  go_enter Try.func62, Try.ntmps62
  go_wp2
  refine wp_loop_rounds 2 ?_
  repeat (rw [rounds_succ]; go_wp2)
  go_ret
  exact ⟨rfl, rfl⟩

set_option maxHeartbeats 400000 in
theorem width_u16 (w : World) : Calls Try.prog 92 #[] w fun e w' => e = .returned (.int .i64 2) ∧ w = w' := by
  go_enter Try.func92, Try.ntmps92
  go_wp2
  refine wp_loop_rounds 3 ?_
  repeat (rw [rounds_succ]; go_wp2)
  go_ret
  exact ⟨rfl, rfl⟩

set_option maxHeartbeats 400000 in
theorem width_u32 (w : World) : Calls Try.prog 85 #[] w fun e w' => e = .returned (.int .i64 4) ∧ w = w' := by
  go_enter Try.func85, Try.ntmps85
  go_wp2
  refine wp_loop_rounds 5 ?_
  repeat (rw [rounds_succ]; go_wp2)
  go_ret
  exact ⟨rfl, rfl⟩

set_option maxHeartbeats 400000 in
theorem width_u64 (w : World) : Calls Try.prog 93 #[] w fun e w' => e = .returned (.int .i64 8) ∧ w = w' := by
  go_enter Try.func93, Try.ntmps93
  go_wp2
  refine wp_loop_rounds 9 ?_
  repeat (rw [rounds_succ]; go_wp2)
  go_ret
  exact ⟨rfl, rfl⟩

set_option maxHeartbeats 400000 in
theorem width_i8 (w : World) : Calls Try.prog 88 #[] w fun e w' => e = .returned (.int .i64 1) ∧ w = w' := by
  go_enter Try.func88, Try.ntmps88
  go_wp2
  refine wp_loop_rounds 2 ?_
  repeat (rw [rounds_succ]; go_wp2)
  go_ret
  exact ⟨rfl, rfl⟩

set_option maxHeartbeats 400000 in
theorem width_i16 (w : World) : Calls Try.prog 89 #[] w fun e w' => e = .returned (.int .i64 2) ∧ w = w' := by
  go_enter Try.func89, Try.ntmps89
  go_wp2
  refine wp_loop_rounds 3 ?_
  repeat (rw [rounds_succ]; go_wp2)
  go_ret
  exact ⟨rfl, rfl⟩

set_option maxHeartbeats 400000 in
theorem width_i32 (w : World) : Calls Try.prog 90 #[] w fun e w' => e = .returned (.int .i64 4) ∧ w = w' := by
  have hz : (wrap32 4294967296 != 0) = false := by simp [wrap32]
  go_enter Try.func90, Try.ntmps90
  go_wp2
  refine wp_loop_rounds 5 ?_
  repeat (rw [rounds_succ]; go_wp2)
  go_ret
  exact ⟨rfl, rfl⟩

set_option maxHeartbeats 400000 in
theorem width_i64 (w : World) : Calls Try.prog 91 #[] w fun e w' => e = .returned (.int .i64 8) ∧ w = w' := by
  have hz : (wrap64 18446744073709551616 != 0) = false := by simp [wrap64]
  go_enter Try.func91, Try.ntmps91
  go_wp2
  refine wp_loop_rounds 9 ?_
  repeat (rw [rounds_succ]; go_wp2)
  go_ret
  exact ⟨rfl, rfl⟩
end Go.Proofs.Ytdakcphkaljghaa
