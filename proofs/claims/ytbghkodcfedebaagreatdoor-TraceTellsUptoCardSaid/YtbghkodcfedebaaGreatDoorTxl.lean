/- From the form of the rows to plain data: a list of events that comes in. -/
import Derived.Test.YtbghkodcfedebaaGreatDoorTxk
import Derived.Test.YtbghkodcfedebaaGreatDoorTru
set_option linter.unusedVariables false
set_option linter.unusedSectionVars false
set_option linter.unusedSimpArgs false
namespace Go.Proofs.YtbghkodcfedebaaGreatDoor
open Go.RowKit Go.AB Go.ChangeShapes Go.WideShapes Go.ChangeAt
theorem opens_events (w : World) : Opens w 22 1 (fun (xs : List Ev) cs => ∃ v, cs = [v] ∧ Lst evC 3 w v xs) (fun xs => xs.length) :=
  (opens_slice Tryz.underlying22 (by kernel_rfl) (opens_event w)).mapE (fun xs cs h => by
    obtain ⟨v, hv, hl⟩ := h
    refine ⟨xs, ⟨v, hv, hl.lst (fun x cs h => h)⟩, ?_⟩
    have := len_le_sum (fun _ : Ev => 1) xs (fun _ => Nat.le_refl _)
    omega)
end Go.Proofs.YtbghkodcfedebaaGreatDoor
