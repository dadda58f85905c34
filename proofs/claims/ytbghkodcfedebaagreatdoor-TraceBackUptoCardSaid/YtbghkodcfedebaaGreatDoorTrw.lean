/- Walks of the trace laws: TraceBack, of what is asked. -/
import Derived.Test.YtbghkodcfedebaaGreatDoorTrt
import Derived.Test.YtbghkodcfedebaaGreatDoorTru
set_option linter.unusedVariables false
set_option linter.unusedSectionVars false
set_option linter.unusedSimpArgs false
namespace Go.Proofs.YtbghkodcfedebaaGreatDoor
open Go.RowKit Go.AB
theorem bA_data (s : ByteArray) : bA s.data.toList = s := by
  cases s
  simp [bA]
theorem back_walk' (w : World) (hv : VarsT w) {v : Value} {a : AskD} (hx : AskV w v a) (hb : a.list.length + a.threads.length + a.turns.length + a.text.size + a.bytes.length ≤ 1048576) :
    Calls Tryz.prog 5 #[v] w fun e w' => e = .returned (.bool true) ∧ Chg [] w w' := by
  obtain ⟨va, vt, vu, vb, rfl, h1, _, _, h2⟩ := hx
  have h := back_walk w hv a.list h1 (by omega) a.text.data.toList (by have : a.text.data.toList.length = a.text.size := rfl; omega) a.bytes h2 (by omega) (.int .i64 a.e.k) (.int .i64 a.e.t) (.int .i64 a.e.o) vt vu (.int .i64 a.leave)
  rwa [bA_data] at h
end Go.Proofs.YtbghkodcfedebaaGreatDoor
