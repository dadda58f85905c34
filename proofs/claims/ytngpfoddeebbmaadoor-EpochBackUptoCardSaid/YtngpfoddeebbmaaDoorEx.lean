/- What the rows' conditions say of the program's variables. -/
import Derived.Test.YtngpfoddeebbmaaDoorEw
import Derived.Test.YtngpfoddeebbmaaDoorEm
namespace Go.Proofs.YtngpfoddeebbmaaDoor
open Go.RowKit Go.AB

theorem star_err : "*" ++ "errors.errorString" = "*errors.errorString" := by decide
theorem row_err (u : TypeId) (h : Tryd.prog.typeName? 3 u = some "*errors.errorString") : u = 101 :=
  typeName_ptr_named (nm := "errors.errorString") (by rw [star_err]; kernel_rfl) (by kernel_rfl) (by decide) u (by rw [star_err]; exact h)
theorem err_of {n : String} {text : List UInt8} {r : List (String × DataW Unit)} {W : World} {g : Nat} (h : laidMet Tryd.prog ((n, .iface "*errors.errorString" (.ptr (.agg [.lit (.string text)]))) :: r) W)
    (hg : Tryd.prog.globalNamed n = some g) (ht : (Tryd.prog.globals[g]?).map (·.type) = some 68) : ErrAt g W := by
  obtain ⟨a, s, hv, _⟩ := laid_sentinel h hg ht Tryd.underlying68 row_err Tryd.underlying101 Tryd.underlying103 rfl rfl Tryd.underlying9 (by kernel_rfl) (by kernel_rfl)
  exact ⟨_, _, World.var?_cell hg hv 0⟩
theorem vars0_of {W : World} (h : laidMetH Tryd.prog Rows.epochTextsUptoRow.laid W) (hS : W.ShapedOpen Tryd.prog) : Vars0 W := by
  have hp := pow10_of h (by kernel_rfl)
  rw [MakeChecks.laidMetH_plain _ _ _ (by kernel_rfl)] at h
  refine ⟨hp, ?_, ?_, ?_⟩
  · exact err_of h.tail.tail.tail.tail (by kernel_rfl) (by kernel_rfl)
  · exact err_of h.tail.tail.tail (by kernel_rfl) (by kernel_rfl)
  · exact cell_of_shapedOpen_int (zero := #[.int .i64 0]) (t := 3) hS (of_decide_eq_true (by kernel_rfl)) (by kernel_rfl) rfl (by kernel_rfl) (by kernel_rfl) Tryd.underlying3
end Go.Proofs.YtngpfoddeebbmaaDoor
