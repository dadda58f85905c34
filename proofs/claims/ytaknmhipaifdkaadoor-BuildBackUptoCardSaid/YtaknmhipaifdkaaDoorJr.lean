/- Walks of the builder's laws: doubled. (Printed by gen_doubled.py.) -/
import Derived.Test.YtaknmhipaifdkaaDoorJq
set_option linter.unusedVariables false
set_option linter.unusedSectionVars false
namespace Go.Proofs.YtaknmhipaifdkaaDoor
open Go.RowKit Go.AB
set_option linter.unusedSimpArgs false
set_option linter.unusedVariables false
set_option linter.unusedSectionVars false

def yItem (x : ItD) : ItD := ⟨x.op, x.a, x.b, x.c, x.n, yU ++ x.name, x.p1, x.p2, x.q1, x.q2⟩
def dblAt (i : Nat) (x : ItD) : List ItD := if x.op = 0 then [x, yItem x] else if ledB x.op = true ∧ i % 2 = 0 then [yItem x] else [x]
def dblTo (l : List ItD) : Nat → List ItD
  | 0 => []
  | i + 1 => dblTo l i ++ match l[i]? with
    | some x => dblAt i x
    | none => []
theorem dblTo_succ (l : List ItD) {i : Nat} (hi : i < l.length) : dblTo l (i + 1) = dblTo l i ++ dblAt i l[i] := by
  rw [dblTo, List.getElem?_eq_getElem hi]

end Go.Proofs.YtaknmhipaifdkaaDoor
