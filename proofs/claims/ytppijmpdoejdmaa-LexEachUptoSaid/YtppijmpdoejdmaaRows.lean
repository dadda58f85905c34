/-
  No cell of these rows narrows 'for every input' (looked for: loops, veiled, ifaces, maps, wideKeys, modest, calm, conditions, laid).
  DERIVED. THE GIVEN ROWS OF THIS SEAT. 7 by the template 'for every input the law returns true; each argument reads behind the call as it read before'; 0 by the template 'total and deterministic' (their statements: YtppijmpdoejdmaaTotals.lean).
  GIVEN WITH THE SEED: the statements are not yours to turn. If you find one false, say at which input.
  Laid BY PROGRAM, IN A SANDBOX (cutbox-rows.mjs): the forced cells as the released guide's own fill.sh prints them over the translation c123f87f12148cbc… (all of the seat's roots in one cut). By AI agents, Wed Nov 11 2026. No macro, syntax, notation, axiom, sorry.
-/
import Derived.Test.YtppijmpdoejdmaaChecked
import GoSem.Claim
import GoSem.ClaimJoined
import GoSem.ClaimMapViews
import Derived.JoinedTies
import Derived.KernelRfl
namespace Go.Proofs.Ytppijmpdoejdmaa
/- THE CELL 'sum', in the pinned program and in every row, IS THE sha256 OF THE DUMP (.gsa) THAT YtppijmpdoejdmaaProg.lean LOADS. Nothing in Lean hashes anything: it is a label: what it is worth is what the hold of that sum in a sandbox is worth. -/
noncomputable def Try.pinned : Pinned := { name := "ytppijmpdoejdmaa", sum := "c123f87f12148cbc3488875d3faf98844e25f21e336a5a660b82cc24c1d51c4e", checked := Try.checked }
namespace Rows
def none {H : Type} : Left H := { results := [], args := [] }

/-- 'abreastlaw07.LexNames': WHATEVER THE INPUT: true; the input reads as it did. -/
def lexNamesSpec : ChangeSpec := { name := "lexNames", fn := fun _ => fun
  | [] => { results := [.lit (.bool true)], args := [] }
  | _ => none }
def lexNamesRow : OpenClaim := { program := "ytppijmpdoejdmaa", sum := "c123f87f12148cbc3488875d3faf98844e25f21e336a5a660b82cc24c1d51c4e", func := "abreast/abreastlaw07.LexNames", spec := "lexNames", apart := false }
def LexNamesSaid : Prop := lexNamesRow.holds Try.pinned (OpenSpec.ofChange lexNamesSpec)

/-- ITS FALSE NEIGHBOUR: 'it returns false'. Refute it at one input. -/
def lexNamesWrong : ChangeSpec := { name := "lexNames", fn := fun _ => fun
  | [] => { results := [.lit (.bool false)], args := [] }
  | _ => none }
def LexNamesWrongFalsely : Prop := lexNamesRow.holds Try.pinned (OpenSpec.ofChange lexNamesWrong)

/-- 'abreastlaw07.LexTokens': WHATEVER THE INPUT: true; the input reads as it did. -/
def lexTokensSpec : ChangeSpec := { name := "lexTokens", fn := fun _ => fun
  | [d] => { results := [.lit (.bool true)], args := [d] }
  | _ => none }
def lexTokensRow : OpenClaim := { program := "ytppijmpdoejdmaa", sum := "c123f87f12148cbc3488875d3faf98844e25f21e336a5a660b82cc24c1d51c4e", func := "abreast/abreastlaw07.LexTokens", spec := "lexTokens", unfollowed := true, recurses := true, apart := false }
def LexTokensSaid : Prop := lexTokensRow.holds Try.pinned (OpenSpec.ofChange lexTokensSpec)

/-- ITS FALSE NEIGHBOUR: 'it returns false'. Refute it at one input. -/
def lexTokensWrong : ChangeSpec := { name := "lexTokens", fn := fun _ => fun
  | [d] => { results := [.lit (.bool false)], args := [d] }
  | _ => none }
def LexTokensWrongFalsely : Prop := lexTokensRow.holds Try.pinned (OpenSpec.ofChange lexTokensWrong)

/-- 'abreastlaw07.LexPieces': WHATEVER THE INPUT: true; the input reads as it did. -/
def lexPiecesSpec : ChangeSpec := { name := "lexPieces", fn := fun _ => fun
  | [d] => { results := [.lit (.bool true)], args := [d] }
  | _ => none }
def lexPiecesRow : OpenClaim := { program := "ytppijmpdoejdmaa", sum := "c123f87f12148cbc3488875d3faf98844e25f21e336a5a660b82cc24c1d51c4e", func := "abreast/abreastlaw07.LexPieces", spec := "lexPieces", unfollowed := true, recurses := true, apart := false }
def LexPiecesSaid : Prop := lexPiecesRow.holds Try.pinned (OpenSpec.ofChange lexPiecesSpec)

/-- ITS FALSE NEIGHBOUR: 'it returns false'. Refute it at one input. -/
def lexPiecesWrong : ChangeSpec := { name := "lexPieces", fn := fun _ => fun
  | [d] => { results := [.lit (.bool false)], args := [d] }
  | _ => none }
def LexPiecesWrongFalsely : Prop := lexPiecesRow.holds Try.pinned (OpenSpec.ofChange lexPiecesWrong)

/-- 'abreastlaw07.LexBlanks': WHATEVER THE INPUT: true; the input reads as it did. -/
def lexBlanksSpec : ChangeSpec := { name := "lexBlanks", fn := fun _ => fun
  | [d1, d2, d3] => { results := [.lit (.bool true)], args := [d1, d2, d3] }
  | _ => none }
def lexBlanksRow : OpenClaim := { program := "ytppijmpdoejdmaa", sum := "c123f87f12148cbc3488875d3faf98844e25f21e336a5a660b82cc24c1d51c4e", func := "abreast/abreastlaw07.LexBlanks", spec := "lexBlanks", unfollowed := true, recurses := true, apart := false }
def LexBlanksSaid : Prop := lexBlanksRow.holds Try.pinned (OpenSpec.ofChange lexBlanksSpec)

/-- ITS FALSE NEIGHBOUR: 'it returns false'. Refute it at one input. -/
def lexBlanksWrong : ChangeSpec := { name := "lexBlanks", fn := fun _ => fun
  | [d1, d2, d3] => { results := [.lit (.bool false)], args := [d1, d2, d3] }
  | _ => none }
def LexBlanksWrongFalsely : Prop := lexBlanksRow.holds Try.pinned (OpenSpec.ofChange lexBlanksWrong)

/-- 'abreastlaw07.LexJoined': WHATEVER THE INPUT: true; the input reads as it did. -/
def lexJoinedSpec : ChangeSpec := { name := "lexJoined", fn := fun _ => fun
  | [d1, d2] => { results := [.lit (.bool true)], args := [d1, d2] }
  | _ => none }
def lexJoinedRow : OpenClaim := { program := "ytppijmpdoejdmaa", sum := "c123f87f12148cbc3488875d3faf98844e25f21e336a5a660b82cc24c1d51c4e", func := "abreast/abreastlaw07.LexJoined", spec := "lexJoined", unfollowed := true, recurses := true, apart := false }
def LexJoinedSaid : Prop := lexJoinedRow.holds Try.pinned (OpenSpec.ofChange lexJoinedSpec)

/-- ITS FALSE NEIGHBOUR: 'it returns false'. Refute it at one input. -/
def lexJoinedWrong : ChangeSpec := { name := "lexJoined", fn := fun _ => fun
  | [d1, d2] => { results := [.lit (.bool false)], args := [d1, d2] }
  | _ => none }
def LexJoinedWrongFalsely : Prop := lexJoinedRow.holds Try.pinned (OpenSpec.ofChange lexJoinedWrong)

/-- 'abreastlaw07.LexEach': WHATEVER THE INPUT: true; the input reads as it did. -/
def lexEachSpec : ChangeSpec := { name := "lexEach", fn := fun _ => fun
  | [d1, d2] => { results := [.lit (.bool true)], args := [d1, d2] }
  | _ => none }
def lexEachRow : OpenClaim := { program := "ytppijmpdoejdmaa", sum := "c123f87f12148cbc3488875d3faf98844e25f21e336a5a660b82cc24c1d51c4e", func := "abreast/abreastlaw07.LexEach", spec := "lexEach", unfollowed := true, recurses := true, apart := false }
def LexEachSaid : Prop := lexEachRow.holds Try.pinned (OpenSpec.ofChange lexEachSpec)

/-- ITS FALSE NEIGHBOUR: 'it returns false'. Refute it at one input. -/
def lexEachWrong : ChangeSpec := { name := "lexEach", fn := fun _ => fun
  | [d1, d2] => { results := [.lit (.bool false)], args := [d1, d2] }
  | _ => none }
def LexEachWrongFalsely : Prop := lexEachRow.holds Try.pinned (OpenSpec.ofChange lexEachWrong)

/-- 'abreastlaw07.LexPlaces': WHATEVER THE INPUT: true; the input reads as it did. -/
def lexPlacesSpec : ChangeSpec := { name := "lexPlaces", fn := fun _ => fun
  | [d1, d2] => { results := [.lit (.bool true)], args := [d1, d2] }
  | _ => none }
def lexPlacesRow : OpenClaim := { program := "ytppijmpdoejdmaa", sum := "c123f87f12148cbc3488875d3faf98844e25f21e336a5a660b82cc24c1d51c4e", func := "abreast/abreastlaw07.LexPlaces", spec := "lexPlaces", unfollowed := true, recurses := true, apart := false }
def LexPlacesSaid : Prop := lexPlacesRow.holds Try.pinned (OpenSpec.ofChange lexPlacesSpec)

/-- ITS FALSE NEIGHBOUR: 'it returns false'. Refute it at one input. -/
def lexPlacesWrong : ChangeSpec := { name := "lexPlaces", fn := fun _ => fun
  | [d1, d2] => { results := [.lit (.bool false)], args := [d1, d2] }
  | _ => none }
def LexPlacesWrongFalsely : Prop := lexPlacesRow.holds Try.pinned (OpenSpec.ofChange lexPlacesWrong)

/- THE SECOND FORM. 'bulk': how many values and letters a reading holds, each counted each time it is reached (what is shared counts as often as it is met; a slice's spare places count too). A statement '..UptoSaid' is the law's where the arguments, and the package variables that the reading takes, are together of bulk at most 1048576: NARROWER than '..Said'. Prove '..Said' where nothing that the law and all that it calls make is longer than what came in: it says more and counts as full. Else prove '..UptoSaid'. A law counts once. -/
mutual
def uptoBulk {H : Type} : DataW H → Nat
  | .lit (.string bytes) => bytes.length + 1
  | .lit _ => 1
  | .nil => 1
  | .ptr d => uptoBulk d + 1
  | .slice elems spare => uptoBulkAll elems + uptoBulkAll spare + 1
  | .agg parts => uptoBulkAll parts + 1
  | .iface _ d => uptoBulk d + 1
  | .map entries => uptoBulkEntries entries + 1
  | .held _ => 1
def uptoBulkAll {H : Type} : List (DataW H) → Nat
  | [] => 0
  | d :: r => uptoBulk d + uptoBulkAll r
def uptoBulkEntries {H : Type} : List (Lit × DataW H) → Nat
  | [] => 0
  | x :: r => uptoBulkEntry x + uptoBulkEntries r
def uptoBulkEntry {H : Type} : Lit × DataW H → Nat
  | (.string bytes, d) => bytes.length + uptoBulk d + 1
  | (_, d) => uptoBulk d + 1
 end
def uptoSmall : (H : Type) → List (DataW H) → Bool := fun _ ds => decide (uptoBulkAll ds ≤ 1048576)
def OpenSpec.upto (s : _root_.Go.ChangeSpec) : _root_.Go.OpenSpec := { _root_.Go.OpenSpec.ofChange s with cond := some uptoSmall }

/-- 'abreastlaw07.LexNames', WHERE WHAT IT READS IS OF BULK AT MOST 1048576: true; the input reads as it did. -/
def lexNamesUptoRow : OpenClaim := { program := "ytppijmpdoejdmaa", sum := "c123f87f12148cbc3488875d3faf98844e25f21e336a5a660b82cc24c1d51c4e", func := "abreast/abreastlaw07.LexNames", spec := "lexNames", apart := false, narrowed := true }
def LexNamesUptoSaid : Prop := lexNamesUptoRow.holds Try.pinned (OpenSpec.upto lexNamesSpec)

/-- 'abreastlaw07.LexTokens', WHERE WHAT IT READS IS OF BULK AT MOST 1048576: true; the input reads as it did. -/
def lexTokensUptoRow : OpenClaim := { program := "ytppijmpdoejdmaa", sum := "c123f87f12148cbc3488875d3faf98844e25f21e336a5a660b82cc24c1d51c4e", func := "abreast/abreastlaw07.LexTokens", spec := "lexTokens", unfollowed := true, recurses := true, apart := false, narrowed := true }
def LexTokensUptoSaid : Prop := lexTokensUptoRow.holds Try.pinned (OpenSpec.upto lexTokensSpec)

/-- 'abreastlaw07.LexPieces', WHERE WHAT IT READS IS OF BULK AT MOST 1048576: true; the input reads as it did. -/
def lexPiecesUptoRow : OpenClaim := { program := "ytppijmpdoejdmaa", sum := "c123f87f12148cbc3488875d3faf98844e25f21e336a5a660b82cc24c1d51c4e", func := "abreast/abreastlaw07.LexPieces", spec := "lexPieces", unfollowed := true, recurses := true, apart := false, narrowed := true }
def LexPiecesUptoSaid : Prop := lexPiecesUptoRow.holds Try.pinned (OpenSpec.upto lexPiecesSpec)

/-- 'abreastlaw07.LexBlanks', WHERE WHAT IT READS IS OF BULK AT MOST 1048576: true; the input reads as it did. -/
def lexBlanksUptoRow : OpenClaim := { program := "ytppijmpdoejdmaa", sum := "c123f87f12148cbc3488875d3faf98844e25f21e336a5a660b82cc24c1d51c4e", func := "abreast/abreastlaw07.LexBlanks", spec := "lexBlanks", unfollowed := true, recurses := true, apart := false, narrowed := true }
def LexBlanksUptoSaid : Prop := lexBlanksUptoRow.holds Try.pinned (OpenSpec.upto lexBlanksSpec)

/-- 'abreastlaw07.LexJoined', WHERE WHAT IT READS IS OF BULK AT MOST 1048576: true; the input reads as it did. -/
def lexJoinedUptoRow : OpenClaim := { program := "ytppijmpdoejdmaa", sum := "c123f87f12148cbc3488875d3faf98844e25f21e336a5a660b82cc24c1d51c4e", func := "abreast/abreastlaw07.LexJoined", spec := "lexJoined", unfollowed := true, recurses := true, apart := false, narrowed := true }
def LexJoinedUptoSaid : Prop := lexJoinedUptoRow.holds Try.pinned (OpenSpec.upto lexJoinedSpec)

/-- 'abreastlaw07.LexEach', WHERE WHAT IT READS IS OF BULK AT MOST 1048576: true; the input reads as it did. -/
def lexEachUptoRow : OpenClaim := { program := "ytppijmpdoejdmaa", sum := "c123f87f12148cbc3488875d3faf98844e25f21e336a5a660b82cc24c1d51c4e", func := "abreast/abreastlaw07.LexEach", spec := "lexEach", unfollowed := true, recurses := true, apart := false, narrowed := true }
def LexEachUptoSaid : Prop := lexEachUptoRow.holds Try.pinned (OpenSpec.upto lexEachSpec)

/-- 'abreastlaw07.LexPlaces', WHERE WHAT IT READS IS OF BULK AT MOST 1048576: true; the input reads as it did. -/
def lexPlacesUptoRow : OpenClaim := { program := "ytppijmpdoejdmaa", sum := "c123f87f12148cbc3488875d3faf98844e25f21e336a5a660b82cc24c1d51c4e", func := "abreast/abreastlaw07.LexPlaces", spec := "lexPlaces", unfollowed := true, recurses := true, apart := false, narrowed := true }
def LexPlacesUptoSaid : Prop := lexPlacesUptoRow.holds Try.pinned (OpenSpec.upto lexPlacesSpec)

end Rows
end Go.Proofs.Ytppijmpdoejdmaa
