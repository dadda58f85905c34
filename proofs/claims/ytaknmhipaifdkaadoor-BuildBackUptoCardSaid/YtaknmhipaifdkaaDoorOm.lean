/- Walks of the builder's laws: what holds of the small unit. -/
import Derived.Test.YtaknmhipaifdkaaDoorOl
set_option linter.unusedVariables false
set_option linter.unusedSectionVars false
namespace Go.Proofs.YtaknmhipaifdkaaDoor
open Go.RowKit Go.AB
set_option linter.unusedSimpArgs false
set_option linter.unusedVariables false
set_option linter.unusedSectionVars false

theorem num_calls (n : Int) (w : World) : Calls Tryd.prog 9 #[.int .i64 n] w fun e w' => e = .returned (.int .i64 n) ∧ w' = w := by
  go_enter Tryd.func9, Tryd.ntmps9
  go_wp2
  go_ret
  exact ⟨rfl, rfl⟩
def smallT : ThrD := ⟨⟨#[116]⟩, [⟨11, 2, 0, 0, 0⟩, ⟨8, 0, 0, 0, 0⟩], [⟨2, 8⟩, ⟨2, 8⟩]⟩
def smallP : PrgD := ⟨[⟨⟨#[120]⟩, 5⟩], [], [], [], [smallT]⟩
/-- The small program in memory, as it is looked at. -/
theorem smallP_look {w : World} {v : Value} (h : PrgV w v smallP) : ∃ (b0 o0 k0 : Nat) (a1 : Option Addr) (k1 : Nat) (a2 : Option Addr) (k2 : Nat) (a3 : Option Addr) (k3 b4 o4 k4 bc oc kc : Nat),
    v = .agg #[.slice (some ⟨b0, o0, none⟩) 1 k0, .slice a1 0 k1, .slice a2 0 k2, .slice a3 0 k3, .slice (some ⟨b4, o4, none⟩) 1 k4] ∧
    (∀ u, Chg [] w u → u.cell? ⟨b0, o0 + 1, none⟩ = some (.int .i64 5) ∧ u.cell? ⟨b4, o4 + 1, none⟩ = some (.slice (some ⟨bc, oc, none⟩) 2 kc) ∧
      (u.cell? ⟨bc, oc, none⟩ = some (.int .i64 11) ∧ u.cell? ⟨bc, oc + 1, none⟩ = some (.int .i64 2) ∧ u.cell? ⟨bc, oc + 2, none⟩ = some (.int .i64 0) ∧ u.cell? ⟨bc, oc + 3, none⟩ = some (.int .i64 0) ∧ u.cell? ⟨bc, oc + 4, none⟩ = some (.int .i64 0)) ∧
      (u.cell? ⟨bc, oc + 5, none⟩ = some (.int .i64 8) ∧ u.cell? ⟨bc, oc + 6, none⟩ = some (.int .i64 0) ∧ u.cell? ⟨bc, oc + 7, none⟩ = some (.int .i64 0) ∧ u.cell? ⟨bc, oc + 8, none⟩ = some (.int .i64 0) ∧ u.cell? ⟨bc, oc + 9, none⟩ = some (.int .i64 0))) := by
  obtain ⟨v0, v1, v2, v3, v4, ts, rfl, l0, l1, l2, l3, l4, hts, hth⟩ := h
  obtain ⟨x, rfl⟩ : ∃ x, ts = [x] := by
    have : ts.length = 1 := by have := congrArg List.length hts; simpa [smallP] using this
    match ts, this with
    | [x], _ => exact ⟨x, rfl⟩
  have hxt : x.t = smallT := by simpa [smallP] using hts
  have hcd := (hth x (by simp)).1
  rw [hxt] at hcd
  obtain ⟨a0, k0, rfl, _⟩ := l0.len
  obtain ⟨a1, k1, rfl, _⟩ := l1.len
  obtain ⟨a2, k2, rfl, _⟩ := l2.len
  obtain ⟨a3, k3, rfl, _⟩ := l3.len
  obtain ⟨a4, k4, rfl, _⟩ := l4.len
  obtain ⟨ac, kc, hxc, _⟩ := hcd.len
  rw [hxc] at hcd
  obtain ⟨b0, o0, rfl, c0⟩ := l0.at varC_len (i := 0) (by simp [smallP]) (by omega)
  obtain ⟨b4, o4, rfl, c4⟩ := l4.at thrC_len (i := 0) (by simp) (by omega)
  obtain ⟨bc, oc, rfl, cc0⟩ := hcd.at insC_len (i := 0) (by simp [smallT]) (by omega)
  obtain ⟨bc', oc', e, cc1⟩ := hcd.at insC_len (i := 1) (by simp [smallT]) (by omega)
  simp only [Option.some.injEq, Addr.mk.injEq, and_true] at e
  obtain ⟨rfl, rfl⟩ := e
  refine ⟨b0, o0, k0, a1, k1, a2, k2, a3, k3, b4, o4, k4, bc, oc, kc, rfl, fun u hu => ⟨?_, ?_, ⟨?_, ?_, ?_, ?_, ?_⟩, ⟨?_, ?_, ?_, ?_, ?_⟩⟩⟩
  · exact hu.cell (c0 1 (by omega)) (by simp)
  · have h1 := hu.cell (c4 1 (by omega)) (by simp)
    simp only [List.getElem_cons_zero, thrC, List.getD_cons_succ, List.getD_cons_zero, hxc] at h1
    exact (by simpa using h1 : u.cell? ⟨b4, o4 + 1, none⟩ = some (.slice (some ⟨bc, oc, none⟩) smallT.code.length kc))
  · exact hu.cell (cc0 0 (by omega)) (by simp)
  · exact hu.cell (cc0 1 (by omega)) (by simp)
  · exact hu.cell (cc0 2 (by omega)) (by simp)
  · exact hu.cell (cc0 3 (by omega)) (by simp)
  · exact hu.cell (cc0 4 (by omega)) (by simp)
  · exact hu.cell (cc1 0 (by omega)) (by simp)
  · exact hu.cell (cc1 1 (by omega)) (by simp)
  · exact hu.cell (cc1 2 (by omega)) (by simp)
  · exact hu.cell (cc1 3 (by omega)) (by simp)
  · exact hu.cell (cc1 4 (by omega)) (by simp)
theorem guard_plc (u : World) (x y : Operand) (xs ys : Array Value) : (eqGuard .neq 35 x y (.agg xs) (.agg ys)).run Tryd.prog u = .ok () u := run_eqGuard_agg u .neq 35 x y xs ys (by kernel_rfl)
theorem guard_ins (u : World) (x y : Operand) (xs ys : Array Value) : (eqGuard .eql 64 x y (.agg xs) (.agg ys)).run Tryd.prog u = .ok () u := run_eqGuard_agg u .eql 64 x y xs ys (by kernel_rfl)
theorem und_plc : Tryd.prog.underlying 35 = some (.struct (Tryd.prog.fieldsOf 35)) := by kernel_rfl
theorem und_ins : Tryd.prog.underlying 64 = some (.struct (Tryd.prog.fieldsOf 64)) := by kernel_rfl
theorem neq_plc28 (u : World) : (binOp .neq 35 (.agg #[.int .i64 2, .int .i64 8]) (.agg #[.int .i64 2, .int .i64 8])).run Tryd.prog u = .ok (.bool false) u := by
  rw [run_neq_struct, run_equalIn_agg u 9999 35 _ _ und_plc (by kernel_rfl)]
  simp [go_sem]
theorem eql_ins_same (u : World) (a b c d e : Int) : (binOp .eql 64 (.agg #[.int .i64 a, .int .i64 b, .int .i64 c, .int .i64 d, .int .i64 e]) (.agg #[.int .i64 a, .int .i64 b, .int .i64 c, .int .i64 d, .int .i64 e])).run Tryd.prog u = .ok (.bool true) u := by
  rw [run_eql_struct, run_equalIn_agg u 9999 64 _ _ und_ins (by kernel_rfl)]
  simp [go_sem]
end Go.Proofs.YtaknmhipaifdkaaDoor
