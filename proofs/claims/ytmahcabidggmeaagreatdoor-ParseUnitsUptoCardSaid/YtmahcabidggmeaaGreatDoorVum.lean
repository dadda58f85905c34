/- The row of ParseUnits: variables. -/
import Derived.Test.YtmahcabidggmeaaGreatDoorVul
import Derived.Test.YtmahcabidggmeaaGreatDoorPk9
import Derived.Test.YtmahcabidggmeaaGreatDoorRows
import Derived.Stop.LaidErr
import Derived.MakeChecks
import Derived.Lib.LaidTab
set_option linter.unusedVariables false
set_option linter.unusedSectionVars false
namespace Go.Proofs.YtmahcabidggmeaaGreatDoor
open Go.RowKit Go.AB
theorem pow10_of {a b : String × DataW Unit} {r : List (String × DataW Unit)} {W : World} (h : laidMetH Tryz.prog (a :: b :: ("internal/strconv.uint64pow10", Rows.laid_internal_strconv_uint64pow10) :: r) W)
    (hp : ((a :: b :: ("internal/strconv.uint64pow10", Rows.laid_internal_strconv_uint64pow10) :: r).all fun x => x.2.handleName?.isNone) = true) : Pow10 W := by
  rw [MakeChecks.laidMetH_plain _ _ _ hp] at h
  exact Lib.tabIs_of_head (g := 0) (by kernel_rfl) (t := 154) (by kernel_rfl) Tryz.underlying154 Tryz.underlying141 (by kernel_rfl) (by kernel_rfl) h.tail.tail
theorem star_err : "*" ++ "errors.errorString" = "*errors.errorString" := by decide
theorem row_err (u : TypeId) (h : Tryz.prog.typeName? 3 u = some "*errors.errorString") : u = 175 :=
  typeName_ptr_named (nm := "errors.errorString") (by rw [star_err]; kernel_rfl) (by kernel_rfl) (by decide) u (by rw [star_err]; exact h)
theorem err_of {n : String} {text : List UInt8} {r : List (String × DataW Unit)} {W : World} {g : Nat} (h : laidMet Tryz.prog ((n, .iface "*errors.errorString" (.ptr (.agg [.lit (.string text)]))) :: r) W)
    (hg : Tryz.prog.globalNamed n = some g) (ht : (Tryz.prog.globals[g]?).map (·.type) = some 83) : ErrAt g W := by
  obtain ⟨a, s, hv, _⟩ := laid_sentinel h hg ht Tryz.underlying83 row_err Tryz.underlying175 Tryz.underlying177 rfl rfl Tryz.underlying9 (by kernel_rfl) (by kernel_rfl)
  exact ⟨_, _, World.var?_cell hg hv 0⟩
theorem vars_of_units {W : World} (h : laidMetH Tryz.prog Rows.parseUnitsUptoRow.laid W) : VarsP W := by
  have hp := pow10_of h (by kernel_rfl)
  rw [MakeChecks.laidMetH_plain _ _ _ (by kernel_rfl)] at h
  refine ⟨hp, ?_, ?_⟩
  · exact err_of h.tail.tail.tail.tail (by kernel_rfl) (by kernel_rfl)
  · exact err_of h.tail.tail.tail (by kernel_rfl) (by kernel_rfl)
end Go.Proofs.YtmahcabidggmeaaGreatDoor
