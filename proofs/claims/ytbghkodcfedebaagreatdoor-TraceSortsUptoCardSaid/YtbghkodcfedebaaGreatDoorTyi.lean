/- The walk of TraceSorts, of what is asked. -/
import Derived.Test.YtbghkodcfedebaaGreatDoorTyh
import Derived.Test.YtbghkodcfedebaaGreatDoorTru
set_option linter.unusedVariables false
set_option linter.unusedSectionVars false
set_option linter.unusedSimpArgs false
namespace Go.Proofs.YtbghkodcfedebaaGreatDoor
open Go.RowKit Go.AB
theorem sorts_walk' (w : World) (hv : VarsT w) {v : Value} {a : AskD} (hx : AskV w v a) (hb : a.list.length + a.threads.length + a.turns.length + a.text.size + a.bytes.length ≤ 1048576) :
    Calls Tryz.prog 8 #[v] w fun e w' => e = .returned (.bool true) ∧ Chg [] w w' := by
  obtain ⟨va, vt, vu, vb, rfl, h1, _, _, h2⟩ := hx
  exact sorts_walk w hv a.list h1 (by omega) (.int .i64 a.e.k) (.int .i64 a.e.t) (.int .i64 a.e.o) vt vu (.string a.text) vb (.int .i64 a.leave)
end Go.Proofs.YtbghkodcfedebaaGreatDoor
