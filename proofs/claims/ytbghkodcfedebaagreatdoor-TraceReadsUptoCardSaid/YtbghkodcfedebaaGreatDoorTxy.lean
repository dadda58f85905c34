/- The walk of TraceReads, for a text that comes in; the row's variables. -/
import Derived.Test.YtbghkodcfedebaaGreatDoorTxw
import Derived.Test.YtbghkodcfedebaaGreatDoorTru
set_option linter.unusedVariables false
set_option linter.unusedSectionVars false
set_option linter.unusedSimpArgs false
namespace Go.Proofs.YtbghkodcfedebaaGreatDoor
open Go.RowKit Go.AB
theorem cells_str {v : Value} {c : Value} {s : ByteArray} (hv : v = .string s) (h : v.cells.toList = [c]) : c = v := by
  subst hv
  simpa [Value.cells] using h.symm
theorem reads_walk' (t : ByteArray) (ht : t.size ≤ 1048576) {v : Value} (L : List UInt8) (hL : L.length ≤ 1048576) (w : World) (hvl : Bytes w v L) (hv : VarsT w) :
    Calls Tryz.prog 4 #[.string t, v] w fun e w' => e = .returned (.bool true) ∧ Chg [] w w' := by
  have h := reads_walk t.data.toList (by rw [← Lib.size_eq]; exact ht) L hL w hvl hv
  rw [show bA t.data.toList = t from (bA_eq rfl).symm] at h
  exact h
end Go.Proofs.YtbghkodcfedebaaGreatDoor
