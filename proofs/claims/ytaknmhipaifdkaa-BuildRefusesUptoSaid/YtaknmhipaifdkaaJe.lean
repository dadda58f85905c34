/- The law BuildRefuses, walked: its four ways together. (XJegate, XJelab, XJelock, XJejump are printed by gen_refuses.py.) -/
import Derived.Test.YtaknmhipaifdkaaJegate
import Derived.Test.YtaknmhipaifdkaaJelab
import Derived.Test.YtaknmhipaifdkaaJelock
import Derived.Test.YtaknmhipaifdkaaJejump
set_option linter.unusedSimpArgs false
set_option linter.unusedVariables false
set_option linter.unusedSectionVars false
namespace Go.Proofs.Ytaknmhipaifdkaa
open Go.RowKit Go.AB

theorem refuses_walk {v : Value} {u : UnD} (w : World) (hv : UnV w v u) (hu : SmallU u) (a1 a2 m : Int) (hm : -9223372036854775808 ≤ m ∧ m ≤ 9223372036854775807) :
    Calls Try.prog 5 #[v, .agg #[.int .i64 a1, .int .i64 a2], .int .i64 m] w fun e w' => e = .returned (.bool true) ∧ Chg [] w w' := by
  have h1 := Int.tmod_lt_of_pos m (show (0 : Int) < 4 by omega)
  have h2 := Int.lt_tmod_of_pos m (show (0 : Int) < 4 by omega)
  by_cases e0 : m.tmod 4 = 0
  · exact refuses_gate w hv hu a1 a2 m hm e0
  · by_cases e1 : m.tmod 4 = 1 ∨ m.tmod 4 = -1
    · exact refuses_lab w hv hu a1 a2 m hm e1
    · by_cases e2 : m.tmod 4 = 2 ∨ m.tmod 4 = -2
      · exact refuses_lock w hv hu a1 a2 m hm e2
      · exact refuses_jump w hv hu a1 a2 m hm (by omega)
end Go.Proofs.Ytaknmhipaifdkaa
