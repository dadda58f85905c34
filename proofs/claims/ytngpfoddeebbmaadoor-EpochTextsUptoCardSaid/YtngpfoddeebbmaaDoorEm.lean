/- The table of the powers of ten, from the row's condition. -/
import Derived.Test.YtngpfoddeebbmaaDoorEl
import Derived.Test.YtngpfoddeebbmaaDoorRows
import Derived.Stop.LaidErr
import Derived.MakeChecks
import Derived.Lib.LaidTab
namespace Go.Proofs.YtngpfoddeebbmaaDoor
open Go.RowKit Go.AB

theorem pow10_of {a b : String × DataW Unit} {r : List (String × DataW Unit)} {W : World} (h : laidMetH Tryd.prog (a :: b :: ("internal/strconv.uint64pow10", Rows.laid_internal_strconv_uint64pow10) :: r) W)
    (hp : ((a :: b :: ("internal/strconv.uint64pow10", Rows.laid_internal_strconv_uint64pow10) :: r).all fun x => x.2.handleName?.isNone) = true) : Pow10 W := by
  rw [MakeChecks.laidMetH_plain _ _ _ hp] at h
  exact Lib.tabIs_of_head (g := 0) (by kernel_rfl) (t := 87) (by kernel_rfl) Tryd.underlying87 Tryd.underlying22 (by kernel_rfl) (by kernel_rfl) h.tail.tail
end Go.Proofs.YtngpfoddeebbmaaDoor
