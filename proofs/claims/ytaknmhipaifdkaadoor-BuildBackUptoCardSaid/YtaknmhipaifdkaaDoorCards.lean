/-
  DERIVED. GIVEN WITH THE SEED: THE CARDS: each row of YtaknmhipaifdkaaDoorRows.lean that lists a variable, with what it lists TIED to the program's text (the seventh form; the later family's looks); each row that meets fmt, with fmt's text TOLD by the authors' own Lean function (tested against real Go, not proved from fmt's source: count such statements apart). THE CARD IS WHAT COUNTS. Prove the row's statement (the work); the ties are given (YtaknmhipaifdkaaDoorTie.lean); close each card by the builder's one call (the guide's Derived/Test/ToyasCard.lean, 'card_holds'). Laid BY PROGRAM, IN A SANDBOX (cutbox-door.mjs). By AI agents, Wed Nov 11 2026. No macro, syntax, notation, axiom, sorry.
-/
import Derived.Test.YtaknmhipaifdkaaDoorRows
import GoSem.ClaimSeven
namespace Go.Proofs.YtaknmhipaifdkaaDoor
namespace Rows

/-- THE TIED CARD OF 'abreastlaw09.BuildBack'. -/
def buildBackCard : Claim7 := { stood := { row := buildBackRow, standIns := [], harness := (true, "2acf1e9b6f77b41f187e63dbe731dbc1f0f5fb3e25a9b0b0cd15b2b187c68ada"), looks := true }, kinds := [], alts := [], laidByText := true, laidKinds := [.data, .data, .data], laidTests := true, laidLooks := .later }
def BuildBackCardSaid : Prop := Claim7.holds Tryd.pinned (.plain (OpenSpec.ofChange buildBackSpec)) buildBackCard

/-- THE TIED CARD OF 'abreastlaw09.BuildProgram'. -/
def buildProgramCard : Claim7 := { stood := { row := buildProgramRow, standIns := [], harness := (true, "2acf1e9b6f77b41f187e63dbe731dbc1f0f5fb3e25a9b0b0cd15b2b187c68ada"), looks := true }, kinds := [], alts := [], laidByText := true, laidKinds := [.data, .data, .data], laidTests := true, laidLooks := .later }
def BuildProgramCardSaid : Prop := Claim7.holds Tryd.pinned (.plain (OpenSpec.ofChange buildProgramSpec)) buildProgramCard

/-- THE SECOND FORM's CARD OF 'abreastlaw09.BuildBack'. -/
def buildBackUptoCard : Claim7 := { stood := { row := buildBackUptoRow, standIns := [], harness := (true, "2acf1e9b6f77b41f187e63dbe731dbc1f0f5fb3e25a9b0b0cd15b2b187c68ada"), looks := true }, kinds := [], alts := [], laidByText := true, laidKinds := [.data, .data, .data], laidTests := true, laidLooks := .later }
def BuildBackUptoCardSaid : Prop := Claim7.holds Tryd.pinned (.plain (OpenSpec.upto buildBackSpec)) buildBackUptoCard

/-- THE SECOND FORM's CARD OF 'abreastlaw09.BuildProgram'. -/
def buildProgramUptoCard : Claim7 := { stood := { row := buildProgramUptoRow, standIns := [], harness := (true, "2acf1e9b6f77b41f187e63dbe731dbc1f0f5fb3e25a9b0b0cd15b2b187c68ada"), looks := true }, kinds := [], alts := [], laidByText := true, laidKinds := [.data, .data, .data], laidTests := true, laidLooks := .later }
def BuildProgramUptoCardSaid : Prop := Claim7.holds Tryd.pinned (.plain (OpenSpec.upto buildProgramSpec)) buildProgramUptoCard
end Rows
end Go.Proofs.YtaknmhipaifdkaaDoor
