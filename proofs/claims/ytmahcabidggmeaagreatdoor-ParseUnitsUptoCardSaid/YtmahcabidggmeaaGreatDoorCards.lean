/-
  DERIVED. GIVEN WITH THE SEED: THE CARDS: each row of YtmahcabidggmeaaGreatDoorRows.lean that lists a variable, with what it lists TIED to the program's text (the seventh form; the later family's looks); each row that meets fmt, with fmt's text TOLD by the authors' own Lean function (tested against real Go, not proved from fmt's source: count such statements apart). THE CARD IS WHAT COUNTS. Prove the row's statement (the work); the ties are given (YtmahcabidggmeaaGreatDoorTie.lean); close each card by the builder's one call (the guide's Derived/Test/ToyasCard.lean, 'card_holds'). Laid BY PROGRAM, IN A SANDBOX (cutbox-door.mjs). By AI agents, Wed Nov 11 2026. No macro, syntax, notation, axiom, sorry.
-/
import Derived.Test.YtmahcabidggmeaaGreatDoorRows
import GoSem.ClaimSeven
namespace Go.Proofs.YtmahcabidggmeaaGreatDoor
namespace Rows

/-- THE TIED CARD OF 'abreastlaw08.ParseUnits'. -/
def parseUnitsCard : Claim7 := { stood := { row := parseUnitsRow, standIns := [], harness := (true, "6512c69c5429b97feb75f5d8ca0c2d00e10f21de97799b7b1beed6f74a33223a"), looks := true }, kinds := [], alts := [], laidByText := true, laidKinds := [.data, .data, .data, .sentinel, .sentinel], laidTests := true, laidLooks := .later }
def ParseUnitsCardSaid : Prop := Claim7.holds Tryz.pinned (.plain (OpenSpec.ofChange parseUnitsSpec)) parseUnitsCard

/-- THE TIED CARD OF 'abreastlaw08.ParsePrints'. -/
def parsePrintsCard : Claim7 := { stood := { row := parsePrintsRow, standIns := [], harness := (true, "6512c69c5429b97feb75f5d8ca0c2d00e10f21de97799b7b1beed6f74a33223a"), looks := true }, kinds := [], alts := [], laidByText := true, laidKinds := [.data, .data, .data, .sentinel, .sentinel], laidTests := true, laidLooks := .later }
def ParsePrintsCardSaid : Prop := Claim7.holds Tryz.pinned (.plain (OpenSpec.ofChange parsePrintsSpec)) parsePrintsCard

/-- THE SECOND FORM's CARD OF 'abreastlaw08.ParseUnits'. -/
def parseUnitsUptoCard : Claim7 := { stood := { row := parseUnitsUptoRow, standIns := [], harness := (true, "6512c69c5429b97feb75f5d8ca0c2d00e10f21de97799b7b1beed6f74a33223a"), looks := true }, kinds := [], alts := [], laidByText := true, laidKinds := [.data, .data, .data, .sentinel, .sentinel], laidTests := true, laidLooks := .later }
def ParseUnitsUptoCardSaid : Prop := Claim7.holds Tryz.pinned (.plain (OpenSpec.upto parseUnitsSpec)) parseUnitsUptoCard

/-- THE SECOND FORM's CARD OF 'abreastlaw08.ParsePrints'. -/
def parsePrintsUptoCard : Claim7 := { stood := { row := parsePrintsUptoRow, standIns := [], harness := (true, "6512c69c5429b97feb75f5d8ca0c2d00e10f21de97799b7b1beed6f74a33223a"), looks := true }, kinds := [], alts := [], laidByText := true, laidKinds := [.data, .data, .data, .sentinel, .sentinel], laidTests := true, laidLooks := .later }
def ParsePrintsUptoCardSaid : Prop := Claim7.holds Tryz.pinned (.plain (OpenSpec.upto parsePrintsSpec)) parsePrintsUptoCard
end Rows
end Go.Proofs.YtmahcabidggmeaaGreatDoor
