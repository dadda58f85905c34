/- Walks of the builder's laws: sorted, clear, doubled. -/
import Derived.Test.YtaknmhipaifdkaaDoorJl
set_option linter.unusedSimpArgs false
set_option linter.unusedSectionVars false
namespace Go.AB
open Go.RowKit
set_option linter.unusedVariables false
/-- The declarations of the last i kinds, from the last kind on. -/
def hiD (ds : List DcD) : Nat → List DcD
  | 0 => []
  | i + 1 => hiD ds i ++ ds.filter fun d => decide (d.kind = 4 - (i : Int))
def sortD (ds : List DcD) : List DcD := hiD ds 4
def yU : ByteArray := ⟨#[121, 95]⟩
end Go.AB
namespace Go.Proofs.YtaknmhipaifdkaaDoor
open Go.RowKit Go.AB
set_option linter.unusedSimpArgs false
set_option linter.unusedVariables false
set_option linter.unusedSectionVars false

theorem filter_snoc {α : Type} (p : α → Bool) (xs : List α) {n : Nat} (hn : n < xs.length) : (xs.take (n + 1)).filter p = (xs.take n).filter p ++ if p xs[n] = true then [xs[n]] else [] := by
  rw [List.take_succ_eq_append_getElem hn, List.filter_append]
  congr 1
  by_cases h : p xs[n] = true
  · rw [if_pos h, List.filter_cons_of_pos h]; rfl
  · rw [if_neg h, List.filter_cons_of_neg h]; rfl

/-- Does an Item's label begin with y_, or is it too long? -/
def BadL (x : ItD) : Prop := ledB x.op = true ∧ (22 < x.name.size ∨ (1 < x.name.size ∧ x.name.extract 0 2 = yU))
def ClearL (l : List ItD) : Prop := ∀ x ∈ l, ¬ BadL x
theorem yU_eq (s : ByteArray) : (s.toList == [121, 95]) = decide (s = yU) := by
  rw [← ba_beq, beq_toListBytes, show yU.toList = [121, 95] from by decide +kernel]

end Go.Proofs.YtaknmhipaifdkaaDoor
