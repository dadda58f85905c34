/- What the row's condition says of the program's tables. -/
import Derived.Test.YtppijmpdoejdmaaDoorDd
import Derived.Test.YtppijmpdoejdmaaDoorRows
import Derived.Stop.LaidErr
import Derived.MakeChecks
import Derived.Lib.LaidTab
namespace Go.Proofs.YtppijmpdoejdmaaDoor
open Go.RowKit Go.AB

def tz64 : List Int := [0, 1, 56, 2, 57, 49, 28, 3, 61, 58, 42, 50, 38, 29, 17, 4, 62, 47, 59, 36, 45, 43, 51, 22, 53, 39, 33, 30, 24, 18, 12, 5, 63, 55, 48, 27, 60, 41, 37, 16, 46, 35, 44, 21, 52, 32, 23, 11, 54, 26, 40, 15, 34, 20, 31, 10, 25, 14, 19, 9, 13, 8, 7, 6]
theorem tabs_of {W : World} (h : laidMetH Tryd.prog Rows.lexNumbersUptoRow.laid W) : Pow10 W ∧ Tz16 W := by
  rw [MakeChecks.laidMetH_plain _ _ _ (by kernel_rfl)] at h
  refine ⟨Lib.tabIs_of_head (g := 0) (by kernel_rfl) (t := 57) (by kernel_rfl) Tryd.underlying57 Tryd.underlying32 (by kernel_rfl) (by kernel_rfl) h.tail.tail, ?_⟩
  have ht := Lib.tabIs_of_head (k := .u8) (zs := tz64) (g := 2) (by kernel_rfl) (t := 67) (by kernel_rfl) Tryd.underlying67 Tryd.underlying5 (by kernel_rfl) (by kernel_rfl) h.tail
  exact ht.cell (by kernel_rfl) 15 (by decide)
theorem numbers_walk' (n : Int) (hn : -9223372036854775808 ≤ n ∧ n ≤ 9223372036854775807) (q : Int) (hq : 0 ≤ q ∧ q ≤ 255) (w : World) (h : Pow10 w ∧ Tz16 w) :
    Calls Tryd.prog 3 #[.int .i64 n, .int .u8 q] w fun e w' => e = .returned (.bool true) ∧ Chg [] w w' := by
  obtain ⟨k, rfl⟩ : ∃ k : Nat, q = k := ⟨q.toNat, by omega⟩
  exact numbers_walk n hn.1 hn.2 k (by omega) w h.1 h.2
end Go.Proofs.YtppijmpdoejdmaaDoor
