/- (Out of wip/tpl XSa.) Structs compared: what the program's tables say. -/
import Derived.Test.YtaknmhipaifdkaaDoorOj
import Derived.Laws.StructEq
set_option linter.unusedVariables false
set_option linter.unusedSectionVars false
namespace Go.Proofs.YtaknmhipaifdkaaDoor
open Go.RowKit Go.AB
set_option linter.unusedSimpArgs false

/-- A claim as a bool. -/
noncomputable def eqB (p : Prop) : Bool := @decide p (Classical.propDecidable p)
theorem eqB_true {p : Prop} (h : p) : eqB p = true := by unfold eqB; simp [h]
theorem eqB_false {p : Prop} (h : ¬ p) : eqB p = false := by unfold eqB; simp [h]
theorem eqB_iff {p q : Prop} (h : p ↔ q) : eqB p = eqB q := by rw [propext h]
theorem list_inj {a b : ByteArray} : a.toList = b.toList ↔ a = b := by
  constructor
  · intro h
    have h2 := beq_toListBytes a b
    rw [h, beq_self_eq_true] at h2
    cases a with | mk x => cases b with | mk y => exact congrArg ByteArray.mk (eq_of_beq (show (x == y) = true from h2))
  · intro h; rw [h]
theorem und_var : Tryd.prog.underlying 61 = some (.struct (Tryd.prog.fieldsOf 61)) := by kernel_rfl
theorem guard_var (u : World) (x y : Operand) (xs ys : Array Value) : (eqGuard .neq 61 x y (.agg xs) (.agg ys)).run Tryd.prog u = .ok () u := run_eqGuard_agg u .neq 61 x y xs ys (by kernel_rfl)
theorem neq_var (u : World) (a0 b0 : ByteArray) (a1 b1 : Int) : (binOp .neq 61 (.agg #[.string a0, .int .i64 a1]) (.agg #[.string b0, .int .i64 b1])).run Tryd.prog u = .ok (.bool (!(eqB (a0 = b0 ∧ a1 = b1)))) u := by
  have he : eqB (a0 = b0 ∧ a1 = b1) = ((a0.toList == b0.toList) && (a1 == b1)) := by
    by_cases h : a0 = b0 ∧ a1 = b1
    · rw [eqB_true h]
      obtain ⟨rfl, rfl⟩ := h
      simp
    · rw [eqB_false h]
      symm
      simp only [Bool.and_eq_false_iff, beq_eq_false_iff_ne, ne_eq]
      try simp only [list_inj]
      first | omega | (by_cases q0 : a0 = b0 <;> simp_all)
  rw [he, run_neq_struct, run_equalIn_agg u 9999 61 _ _ und_var (by kernel_rfl)]
  simp [go_sem]
  repeat' split
  all_goals simp_all
theorem und_bar : Tryd.prog.underlying 74 = some (.struct (Tryd.prog.fieldsOf 74)) := by kernel_rfl
theorem guard_bar (u : World) (x y : Operand) (xs ys : Array Value) : (eqGuard .neq 74 x y (.agg xs) (.agg ys)).run Tryd.prog u = .ok () u := run_eqGuard_agg u .neq 74 x y xs ys (by kernel_rfl)
theorem neq_bar (u : World) (a0 b0 : ByteArray) (a1 b1 : Int) : (binOp .neq 74 (.agg #[.string a0, .int .i64 a1]) (.agg #[.string b0, .int .i64 b1])).run Tryd.prog u = .ok (.bool (!(eqB (a0 = b0 ∧ a1 = b1)))) u := by
  have he : eqB (a0 = b0 ∧ a1 = b1) = ((a0.toList == b0.toList) && (a1 == b1)) := by
    by_cases h : a0 = b0 ∧ a1 = b1
    · rw [eqB_true h]
      obtain ⟨rfl, rfl⟩ := h
      simp
    · rw [eqB_false h]
      symm
      simp only [Bool.and_eq_false_iff, beq_eq_false_iff_ne, ne_eq]
      try simp only [list_inj]
      first | omega | (by_cases q0 : a0 = b0 <;> simp_all)
  rw [he, run_neq_struct, run_equalIn_agg u 9999 74 _ _ und_bar (by kernel_rfl)]
  simp [go_sem]
  repeat' split
  all_goals simp_all
theorem und_ins' : Tryd.prog.underlying 64 = some (.struct (Tryd.prog.fieldsOf 64)) := by kernel_rfl
theorem guard_ins' (u : World) (x y : Operand) (xs ys : Array Value) : (eqGuard .neq 64 x y (.agg xs) (.agg ys)).run Tryd.prog u = .ok () u := run_eqGuard_agg u .neq 64 x y xs ys (by kernel_rfl)
theorem neq_ins (u : World) (a0 b0 : Int) (a1 b1 : Int) (a2 b2 : Int) (a3 b3 : Int) (a4 b4 : Int) : (binOp .neq 64 (.agg #[.int .i64 a0, .int .i64 a1, .int .i64 a2, .int .i64 a3, .int .i64 a4]) (.agg #[.int .i64 b0, .int .i64 b1, .int .i64 b2, .int .i64 b3, .int .i64 b4])).run Tryd.prog u = .ok (.bool (!(eqB (a0 = b0 ∧ a1 = b1 ∧ a2 = b2 ∧ a3 = b3 ∧ a4 = b4)))) u := by
  have he : eqB (a0 = b0 ∧ a1 = b1 ∧ a2 = b2 ∧ a3 = b3 ∧ a4 = b4) = ((a0 == b0) && (a1 == b1) && (a2 == b2) && (a3 == b3) && (a4 == b4)) := by
    by_cases h : a0 = b0 ∧ a1 = b1 ∧ a2 = b2 ∧ a3 = b3 ∧ a4 = b4
    · rw [eqB_true h]
      obtain ⟨rfl, rfl, rfl, rfl, rfl⟩ := h
      simp
    · rw [eqB_false h]
      symm
      simp only [Bool.and_eq_false_iff, beq_eq_false_iff_ne, ne_eq]
      try simp only [list_inj]
      first | omega | (by_cases q0 : a0 = b0 <;> simp_all)
  rw [he, run_neq_struct, run_equalIn_agg u 9999 64 _ _ und_ins' (by kernel_rfl)]
  simp [go_sem]
  repeat' split
  all_goals simp_all
theorem und_plc' : Tryd.prog.underlying 35 = some (.struct (Tryd.prog.fieldsOf 35)) := by kernel_rfl
theorem guard_plc' (u : World) (x y : Operand) (xs ys : Array Value) : (eqGuard .neq 35 x y (.agg xs) (.agg ys)).run Tryd.prog u = .ok () u := run_eqGuard_agg u .neq 35 x y xs ys (by kernel_rfl)
theorem neq_plc (u : World) (a0 b0 : Int) (a1 b1 : Int) : (binOp .neq 35 (.agg #[.int .i64 a0, .int .i64 a1]) (.agg #[.int .i64 b0, .int .i64 b1])).run Tryd.prog u = .ok (.bool (!(eqB (a0 = b0 ∧ a1 = b1)))) u := by
  have he : eqB (a0 = b0 ∧ a1 = b1) = ((a0 == b0) && (a1 == b1)) := by
    by_cases h : a0 = b0 ∧ a1 = b1
    · rw [eqB_true h]
      obtain ⟨rfl, rfl⟩ := h
      simp
    · rw [eqB_false h]
      symm
      simp only [Bool.and_eq_false_iff, beq_eq_false_iff_ne, ne_eq]
      try simp only [list_inj]
      first | omega | (by_cases q0 : a0 = b0 <;> simp_all)
  rw [he, run_neq_struct, run_equalIn_agg u 9999 35 _ _ und_plc' (by kernel_rfl)]
  simp [go_sem]
  repeat' split
  all_goals simp_all
end Go.Proofs.YtaknmhipaifdkaaDoor
