/- Walks of the code layer: registers, instructions, both. -/
import Derived.Test.YtbikekgljabalaaGa
namespace Go.Proofs.Ytbikekgljabalaa
open Go.RowKit Go.AB
set_option linter.unusedSimpArgs false
set_option linter.unusedVariables false

theorem ret_b {a b : Bool} (h : a = b) : Ending.returned (.bool a) = .returned (.bool b) := by rw [h]
theorem regB_true (v : Int) : regB v true = (decide (0 ≤ v) && decide (v ≤ 15)) := rfl
theorem regB_false (v : Int) : regB v false = (v == 0) := rfl
set_option maxRecDepth 100000 in
theorem register_calls (v : Int) (is : Bool) (w : World) : Calls Try.prog 76 #[.int .i64 v, .bool is] w fun e w' => e = .returned (.bool (regB v is)) ∧ w = w' := by
  have hr : regB v is = (decide (0 ≤ v) && decide (v < 16) && (is || v == 0)) := by
    cases is
    · rw [regB_false, Bool.eq_iff_iff]; simp; omega
    · rw [regB_true, Bool.eq_iff_iff]; simp; omega
  rw [hr]
  clear hr
  by_cases h0 : v < 0
  · go_enter Try.func76, Try.ntmps76
    go_wp2
    go_ret
    exact ⟨ret_b (by rw [Bool.eq_iff_iff]; simp; omega), rfl⟩
  · by_cases h1 : 16 ≤ v
    · go_enter Try.func76, Try.ntmps76
      go_wp2
      go_ret
      exact ⟨ret_b (by rw [Bool.eq_iff_iff]; simp; omega), rfl⟩
    · have z0 : 0 ≤ v := by omega
      have z1 : v < 16 := by omega
      cases is
      · go_enter Try.func76, Try.ntmps76
        go_wp2
        go_ret
        exact ⟨ret_b (by simp [z0, z1]), rfl⟩
      · go_enter Try.func76, Try.ntmps76
        go_wp2
        go_ret
        exact ⟨ret_b (by simp [z0, z1]), rfl⟩
set_option maxRecDepth 100000 in
theorem r_register_calls (v : Int) (is : Bool) (w : World) : Calls Try.prog 101 #[.int .i64 v, .bool is] w fun e w' => e = .returned (.bool (regB v is)) ∧ w = w' := by
  cases is
  · rw [regB_false]
    go_enter Try.func101, Try.ntmps101
    go_wp2
    go_ret
    exact ⟨rfl, rfl⟩
  · rw [regB_true]
    by_cases h0 : 0 ≤ v
    · go_enter Try.func101, Try.ntmps101
      go_wp2
      go_ret
      exact ⟨ret_b (by simp [h0]), rfl⟩
    · have h1 : v < 0 := by omega
      go_enter Try.func101, Try.ntmps101
      go_wp2
      go_ret
      exact ⟨ret_b (by rw [Bool.eq_iff_iff]; simp; omega), rfl⟩
/-- An instruction's value. -/
def insV (x : InsD) : Value := .agg #[.int .i64 x.op, .int .i64 x.a, .int .i64 x.b, .int .i64 x.c, .int .i64 x.n]
set_option maxHeartbeats 4000000 in
set_option maxRecDepth 100000 in
theorem instr_calls (x : InsD) (w : World) : Calls Try.prog 32 #[insV x] w fun e w' => e = .returned (.bool (insB x)) ∧ Chg [] w w' := by
  obtain ⟨op, a, b, c, n⟩ := x
  show Calls _ _ #[.agg #[.int .i64 op, .int .i64 a, .int .i64 b, .int .i64 c, .int .i64 n]] w _
  have HN := hid (names_calls op)
  have h : insB ⟨op, a, b, c, n⟩ = (decide (1 ≤ op) && decide (op ≤ 20) && regB a (nA op) && regB b (nB op) && regB c (nC op) && (nN op || n == 0)) := rfl
  rw [h]
  obtain ⟨oA, hA⟩ : ∃ o, nA op = o := ⟨_, rfl⟩
  obtain ⟨oB, hB⟩ : ∃ o, nB op = o := ⟨_, rfl⟩
  obtain ⟨oC, hC⟩ : ∃ o, nC op = o := ⟨_, rfl⟩
  obtain ⟨oN, hN⟩ : ∃ o, nN op = o := ⟨_, rfl⟩
  rw [hA, hB, hC, hN] at HN
  rw [hA, hB, hC, hN]
  have ra := hid (register_calls a oA)
  have rb := hid (register_calls b oB)
  have rc := hid (register_calls c oC)
  obtain ⟨qa, ha⟩ : ∃ q, regB a oA = q := ⟨_, rfl⟩
  obtain ⟨qb, hb⟩ : ∃ q, regB b oB = q := ⟨_, rfl⟩
  obtain ⟨qc, hc⟩ : ∃ q, regB c oC = q := ⟨_, rfl⟩
  rw [ha] at ra
  rw [hb] at rb
  rw [hc] at rc
  rw [ha, hb, hc]
  clear h hA hB hC hN ha hb hc
  by_cases h1 : op < 1
  · rw [decide_eq_false (by omega : ¬ 1 ≤ op)]
    go_enter Try.func32, Try.ntmps32
    go_wp2_with (go_at_call 22; refine (HN.out _).mono ?_; rintro e w' ⟨rfl, rfl⟩)
    go_ret
    exact ⟨rfl, (Chg.refl _ _).alloc _⟩
  by_cases h2 : 20 < op
  · rw [decide_eq_true (by omega : 1 ≤ op), decide_eq_false (by omega : ¬ op ≤ 20)]
    go_enter Try.func32, Try.ntmps32
    go_wp2_with (go_at_call 22; refine (HN.out _).mono ?_; rintro e w' ⟨rfl, rfl⟩)
    go_ret
    exact ⟨rfl, (Chg.refl _ _).alloc _⟩
  have z1 : 1 ≤ op := by omega
  have z2 : op ≤ 20 := by omega
  rw [decide_eq_true z1, decide_eq_true z2]
  cases qa
  · go_enter Try.func32, Try.ntmps32
    go_wp2_with (first
      | (go_at_call 22; refine (HN.out _).mono ?_; rintro e w' ⟨rfl, rfl⟩)
      | (go_at_call 76; (with_reducible refine (ra.out _).mono ?_); rintro e w' ⟨rfl, rfl⟩))
    go_ret
    exact ⟨rfl, (Chg.refl _ _).alloc _⟩
  cases qb
  · go_enter Try.func32, Try.ntmps32
    go_wp2_with (first
      | (go_at_call 22; refine (HN.out _).mono ?_; rintro e w' ⟨rfl, rfl⟩)
      | (go_at_call 76; (with_reducible refine (ra.out _).mono ?_); rintro e w' ⟨rfl, rfl⟩)
      | (go_at_call 76; (with_reducible refine (rb.out _).mono ?_); rintro e w' ⟨rfl, rfl⟩))
    go_ret
    exact ⟨rfl, (Chg.refl _ _).alloc _⟩
  cases qc
  · go_enter Try.func32, Try.ntmps32
    go_wp2_with (first
      | (go_at_call 22; refine (HN.out _).mono ?_; rintro e w' ⟨rfl, rfl⟩)
      | (go_at_call 76; (with_reducible refine (ra.out _).mono ?_); rintro e w' ⟨rfl, rfl⟩)
      | (go_at_call 76; (with_reducible refine (rb.out _).mono ?_); rintro e w' ⟨rfl, rfl⟩)
      | (go_at_call 76; (with_reducible refine (rc.out _).mono ?_); rintro e w' ⟨rfl, rfl⟩))
    go_ret
    exact ⟨rfl, (Chg.refl _ _).alloc _⟩
  cases oN
  all_goals (
    go_enter Try.func32, Try.ntmps32
    go_wp2_with (first
      | (go_at_call 22; refine (HN.out _).mono ?_; rintro e w' ⟨rfl, rfl⟩)
      | (go_at_call 76; (with_reducible refine (ra.out _).mono ?_); rintro e w' ⟨rfl, rfl⟩)
      | (go_at_call 76; (with_reducible refine (rb.out _).mono ?_); rintro e w' ⟨rfl, rfl⟩)
      | (go_at_call 76; (with_reducible refine (rc.out _).mono ?_); rintro e w' ⟨rfl, rfl⟩))
    go_ret
    exact ⟨rfl, (Chg.refl _ _).alloc _⟩)
set_option maxHeartbeats 4000000 in
set_option maxRecDepth 100000 in
theorem r_instr_calls (x : InsD) (w : World) : Calls Try.prog 82 #[insV x] w fun e w' => e = .returned (.bool (insB x)) ∧ Chg [] w w' := by
  obtain ⟨op, a, b, c, n⟩ := x
  show Calls _ _ #[.agg #[.int .i64 op, .int .i64 a, .int .i64 b, .int .i64 c, .int .i64 n]] w _
  have HN := hid (r_names_calls op)
  have h : insB ⟨op, a, b, c, n⟩ = (decide (1 ≤ op) && decide (op ≤ 20) && regB a (nA op) && regB b (nB op) && regB c (nC op) && (nN op || n == 0)) := rfl
  rw [h]
  obtain ⟨oA, hA⟩ : ∃ o, nA op = o := ⟨_, rfl⟩
  obtain ⟨oB, hB⟩ : ∃ o, nB op = o := ⟨_, rfl⟩
  obtain ⟨oC, hC⟩ : ∃ o, nC op = o := ⟨_, rfl⟩
  obtain ⟨oN, hN⟩ : ∃ o, nN op = o := ⟨_, rfl⟩
  rw [hA, hB, hC, hN] at HN
  rw [hA, hB, hC, hN]
  have ra := hid (r_register_calls a oA)
  have rb := hid (r_register_calls b oB)
  have rc := hid (r_register_calls c oC)
  obtain ⟨qa, ha⟩ : ∃ q, regB a oA = q := ⟨_, rfl⟩
  obtain ⟨qb, hb⟩ : ∃ q, regB b oB = q := ⟨_, rfl⟩
  obtain ⟨qc, hc⟩ : ∃ q, regB c oC = q := ⟨_, rfl⟩
  rw [ha] at ra
  rw [hb] at rb
  rw [hc] at rc
  rw [ha, hb, hc]
  clear h hA hB hC hN ha hb hc
  by_cases h1 : op < 1
  · rw [decide_eq_false (by omega : ¬ 1 ≤ op)]
    go_enter Try.func82, Try.ntmps82
    go_wp2_with (go_at_call 23; refine (HN.out _).mono ?_; rintro e w1 ⟨rfl, hc1⟩; have k0 := hc1.cell (p := ⟨w.heap.size, 0, none⟩) (v := .int .i64 op) (by simp) (by simp); have k1 := hc1.cell (p := ⟨w.heap.size, 1, none⟩) (v := .int .i64 a) (by simp) (by simp); have k2 := hc1.cell (p := ⟨w.heap.size, 2, none⟩) (v := .int .i64 b) (by simp) (by simp); have k3 := hc1.cell (p := ⟨w.heap.size, 3, none⟩) (v := .int .i64 c) (by simp) (by simp); have k4 := hc1.cell (p := ⟨w.heap.size, 4, none⟩) (v := .int .i64 n) (by simp) (by simp))
    go_ret
    exact ⟨rfl, by first | exact ((Chg.refl _ _).alloc _).trans' hc1 | exact hc1⟩
  by_cases h2 : 20 < op
  · rw [decide_eq_true (by omega : 1 ≤ op), decide_eq_false (by omega : ¬ op ≤ 20)]
    go_enter Try.func82, Try.ntmps82
    go_wp2_with (go_at_call 23; refine (HN.out _).mono ?_; rintro e w1 ⟨rfl, hc1⟩; have k0 := hc1.cell (p := ⟨w.heap.size, 0, none⟩) (v := .int .i64 op) (by simp) (by simp); have k1 := hc1.cell (p := ⟨w.heap.size, 1, none⟩) (v := .int .i64 a) (by simp) (by simp); have k2 := hc1.cell (p := ⟨w.heap.size, 2, none⟩) (v := .int .i64 b) (by simp) (by simp); have k3 := hc1.cell (p := ⟨w.heap.size, 3, none⟩) (v := .int .i64 c) (by simp) (by simp); have k4 := hc1.cell (p := ⟨w.heap.size, 4, none⟩) (v := .int .i64 n) (by simp) (by simp))
    go_ret
    exact ⟨rfl, by first | exact ((Chg.refl _ _).alloc _).trans' hc1 | exact hc1⟩
  have z1 : 1 ≤ op := by omega
  have z2 : op ≤ 20 := by omega
  rw [decide_eq_true z1, decide_eq_true z2]
  cases qa
  · go_enter Try.func82, Try.ntmps82
    go_wp2_with (first
      | (go_at_call 23; refine (HN.out _).mono ?_; rintro e w1 ⟨rfl, hc1⟩; have k0 := hc1.cell (p := ⟨w.heap.size, 0, none⟩) (v := .int .i64 op) (by simp) (by simp); have k1 := hc1.cell (p := ⟨w.heap.size, 1, none⟩) (v := .int .i64 a) (by simp) (by simp); have k2 := hc1.cell (p := ⟨w.heap.size, 2, none⟩) (v := .int .i64 b) (by simp) (by simp); have k3 := hc1.cell (p := ⟨w.heap.size, 3, none⟩) (v := .int .i64 c) (by simp) (by simp); have k4 := hc1.cell (p := ⟨w.heap.size, 4, none⟩) (v := .int .i64 n) (by simp) (by simp))
      | (go_at_call 101; (with_reducible refine (ra.out _).mono ?_); rintro e w' ⟨rfl, rfl⟩))
    go_ret
    exact ⟨rfl, by first | exact ((Chg.refl _ _).alloc _).trans' hc1 | exact hc1⟩
  cases qb
  · go_enter Try.func82, Try.ntmps82
    go_wp2_with (first
      | (go_at_call 23; refine (HN.out _).mono ?_; rintro e w1 ⟨rfl, hc1⟩; have k0 := hc1.cell (p := ⟨w.heap.size, 0, none⟩) (v := .int .i64 op) (by simp) (by simp); have k1 := hc1.cell (p := ⟨w.heap.size, 1, none⟩) (v := .int .i64 a) (by simp) (by simp); have k2 := hc1.cell (p := ⟨w.heap.size, 2, none⟩) (v := .int .i64 b) (by simp) (by simp); have k3 := hc1.cell (p := ⟨w.heap.size, 3, none⟩) (v := .int .i64 c) (by simp) (by simp); have k4 := hc1.cell (p := ⟨w.heap.size, 4, none⟩) (v := .int .i64 n) (by simp) (by simp))
      | (go_at_call 101; (with_reducible refine (ra.out _).mono ?_); rintro e w' ⟨rfl, rfl⟩)
      | (go_at_call 101; (with_reducible refine (rb.out _).mono ?_); rintro e w' ⟨rfl, rfl⟩))
    go_ret
    exact ⟨rfl, by first | exact ((Chg.refl _ _).alloc _).trans' hc1 | exact hc1⟩
  cases qc
  · go_enter Try.func82, Try.ntmps82
    go_wp2_with (first
      | (go_at_call 23; refine (HN.out _).mono ?_; rintro e w1 ⟨rfl, hc1⟩; have k0 := hc1.cell (p := ⟨w.heap.size, 0, none⟩) (v := .int .i64 op) (by simp) (by simp); have k1 := hc1.cell (p := ⟨w.heap.size, 1, none⟩) (v := .int .i64 a) (by simp) (by simp); have k2 := hc1.cell (p := ⟨w.heap.size, 2, none⟩) (v := .int .i64 b) (by simp) (by simp); have k3 := hc1.cell (p := ⟨w.heap.size, 3, none⟩) (v := .int .i64 c) (by simp) (by simp); have k4 := hc1.cell (p := ⟨w.heap.size, 4, none⟩) (v := .int .i64 n) (by simp) (by simp))
      | (go_at_call 101; (with_reducible refine (ra.out _).mono ?_); rintro e w' ⟨rfl, rfl⟩)
      | (go_at_call 101; (with_reducible refine (rb.out _).mono ?_); rintro e w' ⟨rfl, rfl⟩)
      | (go_at_call 101; (with_reducible refine (rc.out _).mono ?_); rintro e w' ⟨rfl, rfl⟩))
    go_ret
    exact ⟨rfl, by first | exact ((Chg.refl _ _).alloc _).trans' hc1 | exact hc1⟩
  cases oN
  all_goals (
    go_enter Try.func82, Try.ntmps82
    go_wp2_with (first
      | (go_at_call 23; refine (HN.out _).mono ?_; rintro e w1 ⟨rfl, hc1⟩; have k0 := hc1.cell (p := ⟨w.heap.size, 0, none⟩) (v := .int .i64 op) (by simp) (by simp); have k1 := hc1.cell (p := ⟨w.heap.size, 1, none⟩) (v := .int .i64 a) (by simp) (by simp); have k2 := hc1.cell (p := ⟨w.heap.size, 2, none⟩) (v := .int .i64 b) (by simp) (by simp); have k3 := hc1.cell (p := ⟨w.heap.size, 3, none⟩) (v := .int .i64 c) (by simp) (by simp); have k4 := hc1.cell (p := ⟨w.heap.size, 4, none⟩) (v := .int .i64 n) (by simp) (by simp))
      | (go_at_call 101; (with_reducible refine (ra.out _).mono ?_); rintro e w' ⟨rfl, rfl⟩)
      | (go_at_call 101; (with_reducible refine (rb.out _).mono ?_); rintro e w' ⟨rfl, rfl⟩)
      | (go_at_call 101; (with_reducible refine (rc.out _).mono ?_); rintro e w' ⟨rfl, rfl⟩))
    go_ret
    exact ⟨rfl, by first | exact ((Chg.refl _ _).alloc _).trans' hc1 | exact hc1⟩)
end Go.Proofs.Ytbikekgljabalaa
