/-
  DERIVED. GIVEN WITH THE SEED: THE CARDS: each row of YtngpfoddeebbmaaDoorRows.lean that lists a variable, with what it lists TIED to the program's text (the seventh form; the later family's looks); each row that meets fmt, with fmt's text TOLD by the authors' own Lean function (tested against real Go, not proved from fmt's source: count such statements apart). THE CARD IS WHAT COUNTS. Prove the row's statement (the work); the ties are given (YtngpfoddeebbmaaDoorTie.lean); close each card by the builder's one call (the guide's Derived/Test/ToyasCard.lean, 'card_holds'). Laid BY PROGRAM, IN A SANDBOX (cutbox-door.mjs). By AI agents, Wed Nov 11 2026. No macro, syntax, notation, axiom, sorry.
-/
import Derived.Test.YtngpfoddeebbmaaDoorRows
import GoSem.ClaimSeven
namespace Go.Proofs.YtngpfoddeebbmaaDoor
namespace Rows

/-- THE TIED CARD OF 'abreastlaw02.EpochPacks'. -/
def epochPacksCard : Claim7 := { stood := { row := epochPacksRow, standIns := [], harness := (true, "9c607b37b8335b10ec360bd9565ba3cc7bd1ecdef2ff2cc65ad1dd9ea7da0c8d"), looks := true }, kinds := [], alts := [], laidByText := true, laidKinds := [.data, .data, .data], laidTests := true, laidLooks := .later }
def EpochPacksCardSaid : Prop := Claim7.holds Tryd.pinned (.plain (OpenSpec.ofChange epochPacksSpec)) epochPacksCard

/-- THE TIED CARD OF 'abreastlaw02.EpochLeq'. -/
def epochLeqCard : Claim7 := { stood := { row := epochLeqRow, standIns := [], harness := (true, "9c607b37b8335b10ec360bd9565ba3cc7bd1ecdef2ff2cc65ad1dd9ea7da0c8d"), looks := true }, kinds := [], alts := [], laidByText := true, laidKinds := [.data, .data, .data], laidTests := true, laidLooks := .later }
def EpochLeqCardSaid : Prop := Claim7.holds Tryd.pinned (.plain (OpenSpec.ofChange epochLeqSpec)) epochLeqCard

/-- THE TIED CARD OF 'abreastlaw02.EpochLasts'. -/
def epochLastsCard : Claim7 := { stood := { row := epochLastsRow, standIns := [], harness := (true, "9c607b37b8335b10ec360bd9565ba3cc7bd1ecdef2ff2cc65ad1dd9ea7da0c8d"), looks := true }, kinds := [], alts := [], laidByText := true, laidKinds := [.data, .data, .data], laidTests := true, laidLooks := .later }
def EpochLastsCardSaid : Prop := Claim7.holds Tryd.pinned (.plain (OpenSpec.ofChange epochLastsSpec)) epochLastsCard

/-- THE TIED CARD OF 'abreastlaw02.EpochReads'. -/
def epochReadsCard : Claim7 := { stood := { row := epochReadsRow, standIns := [], harness := (true, "9c607b37b8335b10ec360bd9565ba3cc7bd1ecdef2ff2cc65ad1dd9ea7da0c8d"), looks := true }, kinds := [], alts := [], laidByText := true, laidKinds := [.data, .data, .data], laidTests := true, laidLooks := .later }
def EpochReadsCardSaid : Prop := Claim7.holds Tryd.pinned (.plain (OpenSpec.ofChange epochReadsSpec)) epochReadsCard

/-- THE TIED CARD OF 'abreastlaw02.EpochFrom'. -/
def epochFromCard : Claim7 := { stood := { row := epochFromRow, standIns := [], harness := (true, "9c607b37b8335b10ec360bd9565ba3cc7bd1ecdef2ff2cc65ad1dd9ea7da0c8d"), looks := true }, kinds := [], alts := [], laidByText := true, laidKinds := [.data, .data, .data], laidTests := true, laidLooks := .later }
def EpochFromCardSaid : Prop := Claim7.holds Tryd.pinned (.plain (OpenSpec.ofChange epochFromSpec)) epochFromCard

/-- THE TIED CARD OF 'abreastlaw02.EpochTexts'. -/
def epochTextsCard : Claim7 := { stood := { row := epochTextsRow, standIns := [], harness := (true, "9c607b37b8335b10ec360bd9565ba3cc7bd1ecdef2ff2cc65ad1dd9ea7da0c8d"), looks := true }, kinds := [], alts := [], laidByText := true, laidKinds := [.data, .data, .data, .sentinel, .sentinel], laidTests := true, laidLooks := .later }
def EpochTextsCardSaid : Prop := Claim7.holds Tryd.pinned (.plain (OpenSpec.ofChange epochTextsSpec)) epochTextsCard

/-- THE TIED CARD OF 'abreastlaw02.EpochBack'. -/
def epochBackCard : Claim7 := { stood := { row := epochBackRow, standIns := [], harness := (true, "9c607b37b8335b10ec360bd9565ba3cc7bd1ecdef2ff2cc65ad1dd9ea7da0c8d"), looks := true }, kinds := [], alts := [], laidByText := true, laidKinds := [.data, .data, .data, .sentinel, .sentinel], laidTests := true, laidLooks := .later }
def EpochBackCardSaid : Prop := Claim7.holds Tryd.pinned (.plain (OpenSpec.ofChange epochBackSpec)) epochBackCard

/-- THE SECOND FORM's CARD OF 'abreastlaw02.EpochPacks'. -/
def epochPacksUptoCard : Claim7 := { stood := { row := epochPacksUptoRow, standIns := [], harness := (true, "9c607b37b8335b10ec360bd9565ba3cc7bd1ecdef2ff2cc65ad1dd9ea7da0c8d"), looks := true }, kinds := [], alts := [], laidByText := true, laidKinds := [.data, .data, .data], laidTests := true, laidLooks := .later }
def EpochPacksUptoCardSaid : Prop := Claim7.holds Tryd.pinned (.plain (OpenSpec.upto epochPacksSpec)) epochPacksUptoCard

/-- THE SECOND FORM's CARD OF 'abreastlaw02.EpochLeq'. -/
def epochLeqUptoCard : Claim7 := { stood := { row := epochLeqUptoRow, standIns := [], harness := (true, "9c607b37b8335b10ec360bd9565ba3cc7bd1ecdef2ff2cc65ad1dd9ea7da0c8d"), looks := true }, kinds := [], alts := [], laidByText := true, laidKinds := [.data, .data, .data], laidTests := true, laidLooks := .later }
def EpochLeqUptoCardSaid : Prop := Claim7.holds Tryd.pinned (.plain (OpenSpec.upto epochLeqSpec)) epochLeqUptoCard

/-- THE SECOND FORM's CARD OF 'abreastlaw02.EpochLasts'. -/
def epochLastsUptoCard : Claim7 := { stood := { row := epochLastsUptoRow, standIns := [], harness := (true, "9c607b37b8335b10ec360bd9565ba3cc7bd1ecdef2ff2cc65ad1dd9ea7da0c8d"), looks := true }, kinds := [], alts := [], laidByText := true, laidKinds := [.data, .data, .data], laidTests := true, laidLooks := .later }
def EpochLastsUptoCardSaid : Prop := Claim7.holds Tryd.pinned (.plain (OpenSpec.upto epochLastsSpec)) epochLastsUptoCard

/-- THE SECOND FORM's CARD OF 'abreastlaw02.EpochReads'. -/
def epochReadsUptoCard : Claim7 := { stood := { row := epochReadsUptoRow, standIns := [], harness := (true, "9c607b37b8335b10ec360bd9565ba3cc7bd1ecdef2ff2cc65ad1dd9ea7da0c8d"), looks := true }, kinds := [], alts := [], laidByText := true, laidKinds := [.data, .data, .data], laidTests := true, laidLooks := .later }
def EpochReadsUptoCardSaid : Prop := Claim7.holds Tryd.pinned (.plain (OpenSpec.upto epochReadsSpec)) epochReadsUptoCard

/-- THE SECOND FORM's CARD OF 'abreastlaw02.EpochFrom'. -/
def epochFromUptoCard : Claim7 := { stood := { row := epochFromUptoRow, standIns := [], harness := (true, "9c607b37b8335b10ec360bd9565ba3cc7bd1ecdef2ff2cc65ad1dd9ea7da0c8d"), looks := true }, kinds := [], alts := [], laidByText := true, laidKinds := [.data, .data, .data], laidTests := true, laidLooks := .later }
def EpochFromUptoCardSaid : Prop := Claim7.holds Tryd.pinned (.plain (OpenSpec.upto epochFromSpec)) epochFromUptoCard

/-- THE SECOND FORM's CARD OF 'abreastlaw02.EpochTexts'. -/
def epochTextsUptoCard : Claim7 := { stood := { row := epochTextsUptoRow, standIns := [], harness := (true, "9c607b37b8335b10ec360bd9565ba3cc7bd1ecdef2ff2cc65ad1dd9ea7da0c8d"), looks := true }, kinds := [], alts := [], laidByText := true, laidKinds := [.data, .data, .data, .sentinel, .sentinel], laidTests := true, laidLooks := .later }
def EpochTextsUptoCardSaid : Prop := Claim7.holds Tryd.pinned (.plain (OpenSpec.upto epochTextsSpec)) epochTextsUptoCard

/-- THE SECOND FORM's CARD OF 'abreastlaw02.EpochBack'. -/
def epochBackUptoCard : Claim7 := { stood := { row := epochBackUptoRow, standIns := [], harness := (true, "9c607b37b8335b10ec360bd9565ba3cc7bd1ecdef2ff2cc65ad1dd9ea7da0c8d"), looks := true }, kinds := [], alts := [], laidByText := true, laidKinds := [.data, .data, .data, .sentinel, .sentinel], laidTests := true, laidLooks := .later }
def EpochBackUptoCardSaid : Prop := Claim7.holds Tryd.pinned (.plain (OpenSpec.upto epochBackSpec)) epochBackUptoCard
end Rows
end Go.Proofs.YtngpfoddeebbmaaDoor
