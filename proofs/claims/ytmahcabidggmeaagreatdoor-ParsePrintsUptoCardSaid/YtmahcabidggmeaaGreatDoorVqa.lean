/- The law ParseBack: its walk. -/
import Derived.Test.YtmahcabidggmeaaGreatDoorVpz
set_option linter.unusedVariables false
set_option linter.unusedSectionVars false
set_option linter.unusedSimpArgs false
namespace Go.AB
open Go.RowKit
theorem print_cases (u : UnD) : (printD u = .error 85 ∨ printD u = .error 3) ∨ (printD u = .ok (textS u) ∧ unitOk u = true ∧ (textS u).length ≤ 1048576) := by
  unfold printD
  split
  · exact .inl (.inl rfl)
  · split
    · exact .inl (.inr rfl)
    · rename_i h1 h2
      exact .inr ⟨rfl, by simpa using h1, by omega⟩
end Go.AB
namespace Go.Proofs.YtmahcabidggmeaaGreatDoor
open Go.RowKit Go.AB
set_option linter.unusedSimpArgs false
set_option linter.unusedVariables false
set_option linter.unusedSectionVars false

end Go.Proofs.YtmahcabidggmeaaGreatDoor
