/- What the rows' conditions say of the program's variables (parse). -/
import Derived.Test.YtmahcabidggmeaaDoorVpy
import Derived.Test.YtmahcabidggmeaaDoorRows
import Derived.Stop.LaidErr
import Derived.MakeChecks
import Derived.Lib.LaidTab
set_option linter.unusedVariables false
set_option linter.unusedSectionVars false
set_option linter.unusedSimpArgs false
namespace Go.Proofs.YtmahcabidggmeaaDoor
open Go.RowKit Go.AB

theorem pow10_of {a b : String × DataW Unit} {r : List (String × DataW Unit)} {W : World} (h : laidMetH Tryd.prog (a :: b :: ("internal/strconv.uint64pow10", Rows.laid_internal_strconv_uint64pow10) :: r) W)
    (hp : ((a :: b :: ("internal/strconv.uint64pow10", Rows.laid_internal_strconv_uint64pow10) :: r).all fun x => x.2.handleName?.isNone) = true) : Pow10 W := by
  rw [MakeChecks.laidMetH_plain _ _ _ hp] at h
  exact Lib.tabIs_of_head (g := 2) (by kernel_rfl) (t := 154) (by kernel_rfl) Tryd.underlying154 Tryd.underlying102 (by kernel_rfl) (by kernel_rfl) h.tail.tail
theorem star_err : "*" ++ "errors.errorString" = "*errors.errorString" := by decide
theorem row_err (u : TypeId) (h : Tryd.prog.typeName? 3 u = some "*errors.errorString") : u = 149 :=
  typeName_ptr_named (nm := "errors.errorString") (by rw [star_err]; kernel_rfl) (by kernel_rfl) (by decide) u (by rw [star_err]; exact h)
theorem err_of {n : String} {text : List UInt8} {r : List (String × DataW Unit)} {W : World} {g : Nat} (h : laidMet Tryd.prog ((n, .iface "*errors.errorString" (.ptr (.agg [.lit (.string text)]))) :: r) W)
    (hg : Tryd.prog.globalNamed n = some g) (ht : (Tryd.prog.globals[g]?).map (·.type) = some 76) : ErrAt g W := by
  obtain ⟨a, s, hv, _⟩ := laid_sentinel h hg ht Tryd.underlying76 row_err Tryd.underlying149 Tryd.underlying151 rfl rfl Tryd.underlying9 (by kernel_rfl) (by kernel_rfl)
  exact ⟨_, _, World.var?_cell hg hv 0⟩
theorem vars_of {W : World} (h : laidMetH Tryd.prog Rows.parseAgainUptoRow.laid W) : VarsP W := by
  have hp := pow10_of h (by kernel_rfl)
  rw [MakeChecks.laidMetH_plain _ _ _ (by kernel_rfl)] at h
  refine ⟨hp, ?_, ?_⟩
  · exact err_of h.tail.tail.tail.tail (by kernel_rfl) (by kernel_rfl)
  · exact err_of h.tail.tail.tail (by kernel_rfl) (by kernel_rfl)
theorem ba_list (s : ByteArray) : bA s.data.toList = s := rfl
end Go.Proofs.YtmahcabidggmeaaDoor
