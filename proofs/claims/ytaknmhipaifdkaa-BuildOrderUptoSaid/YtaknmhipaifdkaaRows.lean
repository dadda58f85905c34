/-
  No cell of these rows narrows 'for every input' (looked for: loops, veiled, ifaces, maps, wideKeys, modest, calm, conditions, laid).
  DERIVED. THE GIVEN ROWS OF THIS SEAT. 4 by the template 'for every input the law returns true; each argument reads behind the call as it read before'; 0 by the template 'total and deterministic' (their statements: YtaknmhipaifdkaaTotals.lean).
  GIVEN WITH THE SEED: the statements are not yours to turn. If you find one false, say at which input.
  Laid BY PROGRAM, IN A SANDBOX (cutbox-rows.mjs): the forced cells as the released guide's own fill.sh prints them over the translation efcf11ec66a2dd6d… (all of the seat's roots in one cut). By AI agents, Wed Nov 11 2026. No macro, syntax, notation, axiom, sorry.
-/
import Derived.Test.YtaknmhipaifdkaaChecked
import GoSem.Claim
import GoSem.ClaimJoined
import GoSem.ClaimMapViews
import Derived.JoinedTies
import Derived.KernelRfl
namespace Go.Proofs.Ytaknmhipaifdkaa
/- THE CELL 'sum', in the pinned program and in every row, IS THE sha256 OF THE DUMP (.gsa) THAT YtaknmhipaifdkaaProg.lean LOADS. Nothing in Lean hashes anything: it is a label: what it is worth is what the hold of that sum in a sandbox is worth. -/
noncomputable def Try.pinned : Pinned := { name := "ytaknmhipaifdkaa", sum := "efcf11ec66a2dd6d3e470b6808ed2c376ed7f628e8f4150b8f19ab3318714360", checked := Try.checked }
namespace Rows
def none {H : Type} : Left H := { results := [], args := [] }

/-- 'abreastlaw09.BuildRenames': WHATEVER THE INPUT: true; the input reads as it did. -/
def buildRenamesSpec : ChangeSpec := { name := "buildRenames", fn := fun _ => fun
  | [d] => { results := [.lit (.bool true)], args := [d] }
  | _ => none }
def buildRenamesRow : OpenClaim := { program := "ytaknmhipaifdkaa", sum := "efcf11ec66a2dd6d3e470b6808ed2c376ed7f628e8f4150b8f19ab3318714360", func := "abreast/abreastlaw09.BuildRenames", spec := "buildRenames", unfollowed := true, recurses := true, apart := false }
def BuildRenamesSaid : Prop := buildRenamesRow.holds Try.pinned (OpenSpec.ofChange buildRenamesSpec)

/-- ITS FALSE NEIGHBOUR: 'it returns false'. Refute it at one input. -/
def buildRenamesWrong : ChangeSpec := { name := "buildRenames", fn := fun _ => fun
  | [d] => { results := [.lit (.bool false)], args := [d] }
  | _ => none }
def BuildRenamesWrongFalsely : Prop := buildRenamesRow.holds Try.pinned (OpenSpec.ofChange buildRenamesWrong)

/-- 'abreastlaw09.BuildOrder': WHATEVER THE INPUT: true; the input reads as it did. -/
def buildOrderSpec : ChangeSpec := { name := "buildOrder", fn := fun _ => fun
  | [d] => { results := [.lit (.bool true)], args := [d] }
  | _ => none }
def buildOrderRow : OpenClaim := { program := "ytaknmhipaifdkaa", sum := "efcf11ec66a2dd6d3e470b6808ed2c376ed7f628e8f4150b8f19ab3318714360", func := "abreast/abreastlaw09.BuildOrder", spec := "buildOrder", unfollowed := true, recurses := true, apart := false }
def BuildOrderSaid : Prop := buildOrderRow.holds Try.pinned (OpenSpec.ofChange buildOrderSpec)

/-- ITS FALSE NEIGHBOUR: 'it returns false'. Refute it at one input. -/
def buildOrderWrong : ChangeSpec := { name := "buildOrder", fn := fun _ => fun
  | [d] => { results := [.lit (.bool false)], args := [d] }
  | _ => none }
def BuildOrderWrongFalsely : Prop := buildOrderRow.holds Try.pinned (OpenSpec.ofChange buildOrderWrong)

/-- 'abreastlaw09.BuildRefuses': WHATEVER THE INPUT: true; the input reads as it did. -/
def buildRefusesSpec : ChangeSpec := { name := "buildRefuses", fn := fun _ => fun
  | [d1, d2, d3] => { results := [.lit (.bool true)], args := [d1, d2, d3] }
  | _ => none }
def buildRefusesRow : OpenClaim := { program := "ytaknmhipaifdkaa", sum := "efcf11ec66a2dd6d3e470b6808ed2c376ed7f628e8f4150b8f19ab3318714360", func := "abreast/abreastlaw09.BuildRefuses", spec := "buildRefuses", unfollowed := true, recurses := true, apart := false }
def BuildRefusesSaid : Prop := buildRefusesRow.holds Try.pinned (OpenSpec.ofChange buildRefusesSpec)

/-- ITS FALSE NEIGHBOUR: 'it returns false'. Refute it at one input. -/
def buildRefusesWrong : ChangeSpec := { name := "buildRefuses", fn := fun _ => fun
  | [d1, d2, d3] => { results := [.lit (.bool false)], args := [d1, d2, d3] }
  | _ => none }
def BuildRefusesWrongFalsely : Prop := buildRefusesRow.holds Try.pinned (OpenSpec.ofChange buildRefusesWrong)

/-- 'abreastlaw09.BuildNames': WHATEVER THE INPUT: true; the input reads as it did. -/
def buildNamesSpec : ChangeSpec := { name := "buildNames", fn := fun _ => fun
  | [] => { results := [.lit (.bool true)], args := [] }
  | _ => none }
def buildNamesRow : OpenClaim := { program := "ytaknmhipaifdkaa", sum := "efcf11ec66a2dd6d3e470b6808ed2c376ed7f628e8f4150b8f19ab3318714360", func := "abreast/abreastlaw09.BuildNames", spec := "buildNames", unfollowed := true, recurses := true, apart := false }
def BuildNamesSaid : Prop := buildNamesRow.holds Try.pinned (OpenSpec.ofChange buildNamesSpec)

/-- ITS FALSE NEIGHBOUR: 'it returns false'. Refute it at one input. -/
def buildNamesWrong : ChangeSpec := { name := "buildNames", fn := fun _ => fun
  | [] => { results := [.lit (.bool false)], args := [] }
  | _ => none }
def BuildNamesWrongFalsely : Prop := buildNamesRow.holds Try.pinned (OpenSpec.ofChange buildNamesWrong)

/- THE SECOND FORM. 'bulk': how many values and letters a reading holds, each counted each time it is reached (what is shared counts as often as it is met; a slice's spare places count too). A statement '..UptoSaid' is the law's where the arguments, and the package variables that the reading takes, are together of bulk at most 1048576: NARROWER than '..Said'. Prove '..Said' where nothing that the law and all that it calls make is longer than what came in: it says more and counts as full. Else prove '..UptoSaid'. A law counts once. -/
mutual
def uptoBulk {H : Type} : DataW H → Nat
  | .lit (.string bytes) => bytes.length + 1
  | .lit _ => 1
  | .nil => 1
  | .ptr d => uptoBulk d + 1
  | .slice elems spare => uptoBulkAll elems + uptoBulkAll spare + 1
  | .agg parts => uptoBulkAll parts + 1
  | .iface _ d => uptoBulk d + 1
  | .map entries => uptoBulkEntries entries + 1
  | .held _ => 1
def uptoBulkAll {H : Type} : List (DataW H) → Nat
  | [] => 0
  | d :: r => uptoBulk d + uptoBulkAll r
def uptoBulkEntries {H : Type} : List (Lit × DataW H) → Nat
  | [] => 0
  | x :: r => uptoBulkEntry x + uptoBulkEntries r
def uptoBulkEntry {H : Type} : Lit × DataW H → Nat
  | (.string bytes, d) => bytes.length + uptoBulk d + 1
  | (_, d) => uptoBulk d + 1
 end
def uptoSmall : (H : Type) → List (DataW H) → Bool := fun _ ds => decide (uptoBulkAll ds ≤ 1048576)
def OpenSpec.upto (s : _root_.Go.ChangeSpec) : _root_.Go.OpenSpec := { _root_.Go.OpenSpec.ofChange s with cond := some uptoSmall }

/-- 'abreastlaw09.BuildRenames', WHERE WHAT IT READS IS OF BULK AT MOST 1048576: true; the input reads as it did. -/
def buildRenamesUptoRow : OpenClaim := { program := "ytaknmhipaifdkaa", sum := "efcf11ec66a2dd6d3e470b6808ed2c376ed7f628e8f4150b8f19ab3318714360", func := "abreast/abreastlaw09.BuildRenames", spec := "buildRenames", unfollowed := true, recurses := true, apart := false, narrowed := true }
def BuildRenamesUptoSaid : Prop := buildRenamesUptoRow.holds Try.pinned (OpenSpec.upto buildRenamesSpec)

/-- 'abreastlaw09.BuildOrder', WHERE WHAT IT READS IS OF BULK AT MOST 1048576: true; the input reads as it did. -/
def buildOrderUptoRow : OpenClaim := { program := "ytaknmhipaifdkaa", sum := "efcf11ec66a2dd6d3e470b6808ed2c376ed7f628e8f4150b8f19ab3318714360", func := "abreast/abreastlaw09.BuildOrder", spec := "buildOrder", unfollowed := true, recurses := true, apart := false, narrowed := true }
def BuildOrderUptoSaid : Prop := buildOrderUptoRow.holds Try.pinned (OpenSpec.upto buildOrderSpec)

/-- 'abreastlaw09.BuildRefuses', WHERE WHAT IT READS IS OF BULK AT MOST 1048576: true; the input reads as it did. -/
def buildRefusesUptoRow : OpenClaim := { program := "ytaknmhipaifdkaa", sum := "efcf11ec66a2dd6d3e470b6808ed2c376ed7f628e8f4150b8f19ab3318714360", func := "abreast/abreastlaw09.BuildRefuses", spec := "buildRefuses", unfollowed := true, recurses := true, apart := false, narrowed := true }
def BuildRefusesUptoSaid : Prop := buildRefusesUptoRow.holds Try.pinned (OpenSpec.upto buildRefusesSpec)

/-- 'abreastlaw09.BuildNames', WHERE WHAT IT READS IS OF BULK AT MOST 1048576: true; the input reads as it did. -/
def buildNamesUptoRow : OpenClaim := { program := "ytaknmhipaifdkaa", sum := "efcf11ec66a2dd6d3e470b6808ed2c376ed7f628e8f4150b8f19ab3318714360", func := "abreast/abreastlaw09.BuildNames", spec := "buildNames", unfollowed := true, recurses := true, apart := false, narrowed := true }
def BuildNamesUptoSaid : Prop := buildNamesUptoRow.holds Try.pinned (OpenSpec.upto buildNamesSpec)

end Rows
end Go.Proofs.Ytaknmhipaifdkaa
