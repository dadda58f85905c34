/- What the rows' conditions say of the program's variables (trace); the numbers' law. -/
import Derived.Test.YtbghkodcfedebaaGreatDoorTro
import Derived.Test.YtbghkodcfedebaaGreatDoorRows
import Derived.Test.YtbghkodcfedebaaGreatDoorTj3
import Derived.Stop.LaidErr
import Derived.MakeChecks
import Derived.Lib.LaidTab
set_option linter.unusedVariables false
set_option linter.unusedSectionVars false
set_option linter.unusedSimpArgs false
namespace Go.Proofs.YtbghkodcfedebaaGreatDoor
open Go.RowKit Go.AB

theorem star_err : "*" ++ "errors.errorString" = "*errors.errorString" := by decide
theorem row_err (u : TypeId) (h : Tryz.prog.typeName? 3 u = some "*errors.errorString") : u = 249 :=
  typeName_ptr_named (nm := "errors.errorString") (by rw [star_err]; kernel_rfl) (by kernel_rfl) (by decide) u (by rw [star_err]; exact h)
theorem err_of {n : String} {text : List UInt8} {r : List (String × DataW Unit)} {W : World} {g : Nat} (h : laidMet Tryz.prog ((n, .iface "*errors.errorString" (.ptr (.agg [.lit (.string text)]))) :: r) W)
    (hg : Tryz.prog.globalNamed n = some g) (ht : (Tryz.prog.globals[g]?).map (·.type) = some 119) : ErrAt g W := by
  obtain ⟨a, s, hv, _⟩ := laid_sentinel h hg ht Tryz.underlying119 row_err Tryz.underlying249 Tryz.underlying251 rfl rfl Tryz.underlying9 (by kernel_rfl) (by kernel_rfl)
  exact ⟨_, _, World.var?_cell hg hv 0⟩
set_option maxRecDepth 100000 in
theorem vars_of {W : World} (h : laidMetH Tryz.prog Rows.traceNamesUptoRow.laid W) (hS : W.ShapedOpen Tryz.prog) : VarsT W := by
  rw [MakeChecks.laidMetH_plain _ _ _ (by kernel_rfl)] at h
  refine ⟨?_, ?_, ?_, ?_, Tryz.laysM145.s1_3 W hS⟩
  · exact Lib.tabIs_of_head (g := 3) (by kernel_rfl) (t := 234) (by kernel_rfl) Tryz.underlying234 Tryz.underlying86 (by kernel_rfl) (by kernel_rfl) h.tail.tail
  · exact Lib.tabIs_of_head (g := 0) (by kernel_rfl) (t := 185) (by kernel_rfl) Tryz.underlying185 Tryz.underlying5 (by kernel_rfl) (by kernel_rfl) h.tail.tail.tail.tail.tail.tail.tail
  · exact err_of h.tail.tail.tail.tail.tail (by kernel_rfl) (by kernel_rfl)
  · exact err_of h.tail.tail.tail.tail (by kernel_rfl) (by kernel_rfl)
set_option maxHeartbeats 1000000 in
theorem names_walk (w : World) (hv : VarsT w) : Calls Tryz.prog 6 #[] w fun e w' => e = .returned (.bool true) ∧ Chg [] w w' := by
  have HW := hid (works_calls w hv)
  go_enter Tryz.func6, Tryz.ntmps6
  go_wp2_with (go_at_call 9; refine HW.out.mono ?_; rintro e w1 ⟨rfl, hc⟩)
  go_ret
  exact ⟨rfl, hc⟩
end Go.Proofs.YtbghkodcfedebaaGreatDoor
