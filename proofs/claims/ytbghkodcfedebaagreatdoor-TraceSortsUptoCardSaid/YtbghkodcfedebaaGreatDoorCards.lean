/-
  DERIVED. GIVEN WITH THE SEED: THE CARDS: each row of YtbghkodcfedebaaGreatDoorRows.lean that lists a variable, with what it lists TIED to the program's text (the seventh form; the later family's looks); each row that meets fmt, with fmt's text TOLD by the authors' own Lean function (tested against real Go, not proved from fmt's source: count such statements apart). THE CARD IS WHAT COUNTS. Prove the row's statement (the work); the ties are given (YtbghkodcfedebaaGreatDoorTie.lean); close each card by the builder's one call (the guide's Derived/Test/ToyasCard.lean, 'card_holds'). Laid BY PROGRAM, IN A SANDBOX (cutbox-door.mjs). By AI agents, Wed Nov 11 2026. No macro, syntax, notation, axiom, sorry.
-/
import Derived.Test.YtbghkodcfedebaaGreatDoorRows
import GoSem.ClaimSeven
namespace Go.Proofs.YtbghkodcfedebaaGreatDoor
namespace Rows

/-- THE TIED CARD OF 'abreastlaw18.TraceTells'. -/
def traceTellsCard : Claim7 := { stood := { row := traceTellsRow, standIns := [], harness := (true, "6a15df1bad6905ecd1cda201fe7d5551518af59d53f360eab125d59f3c1d8115"), looks := true }, kinds := [], alts := [], laidByText := true, laidKinds := [.data, .data, .data, .data, .sentinel, .sentinel, .listed, .data, .pinned], laidTests := true, laidLooks := .later }
def TraceTellsCardSaid : Prop := Claim7.holds Tryz.pinned (.plain (OpenSpec.ofChange traceTellsSpec)) traceTellsCard

/-- THE TIED CARD OF 'abreastlaw18.TraceReads'. -/
def traceReadsCard : Claim7 := { stood := { row := traceReadsRow, standIns := [], harness := (true, "6a15df1bad6905ecd1cda201fe7d5551518af59d53f360eab125d59f3c1d8115"), looks := true }, kinds := [], alts := [], laidByText := true, laidKinds := [.data, .data, .data, .data, .sentinel, .sentinel, .listed, .data, .pinned], laidTests := true, laidLooks := .later }
def TraceReadsCardSaid : Prop := Claim7.holds Tryz.pinned (.plain (OpenSpec.ofChange traceReadsSpec)) traceReadsCard

/-- THE TIED CARD OF 'abreastlaw18.TraceBack'. -/
def traceBackCard : Claim7 := { stood := { row := traceBackRow, standIns := [], harness := (true, "6a15df1bad6905ecd1cda201fe7d5551518af59d53f360eab125d59f3c1d8115"), looks := true }, kinds := [], alts := [], laidByText := true, laidKinds := [.data, .data, .data, .data, .sentinel, .sentinel, .listed, .data, .pinned], laidTests := true, laidLooks := .later }
def TraceBackCardSaid : Prop := Claim7.holds Tryz.pinned (.plain (OpenSpec.ofChange traceBackSpec)) traceBackCard

/-- THE TIED CARD OF 'abreastlaw18.TraceNames'. -/
def traceNamesCard : Claim7 := { stood := { row := traceNamesRow, standIns := [], harness := (true, "6a15df1bad6905ecd1cda201fe7d5551518af59d53f360eab125d59f3c1d8115"), looks := true }, kinds := [], alts := [], laidByText := true, laidKinds := [.data, .data, .data, .data, .sentinel, .sentinel, .listed, .data, .pinned], laidTests := true, laidLooks := .later }
def TraceNamesCardSaid : Prop := Claim7.holds Tryz.pinned (.plain (OpenSpec.ofChange traceNamesSpec)) traceNamesCard

/-- THE TIED CARD OF 'abreastlaw18.TraceWoven'. -/
def traceWovenCard : Claim7 := { stood := { row := traceWovenRow, standIns := [], harness := (true, "6a15df1bad6905ecd1cda201fe7d5551518af59d53f360eab125d59f3c1d8115"), looks := true }, kinds := [], alts := [], laidByText := true, laidKinds := [.data, .data, .data, .data, .sentinel, .sentinel, .listed, .data, .pinned], laidTests := true, laidLooks := .later }
def TraceWovenCardSaid : Prop := Claim7.holds Tryz.pinned (.plain (OpenSpec.ofChange traceWovenSpec)) traceWovenCard

/-- THE TIED CARD OF 'abreastlaw18.TraceSorts'. -/
def traceSortsCard : Claim7 := { stood := { row := traceSortsRow, standIns := [], harness := (true, "6a15df1bad6905ecd1cda201fe7d5551518af59d53f360eab125d59f3c1d8115"), looks := true }, kinds := [], alts := [], laidByText := true, laidKinds := [.data, .data, .data, .data, .sentinel, .sentinel, .listed, .data, .pinned], laidTests := true, laidLooks := .later }
def TraceSortsCardSaid : Prop := Claim7.holds Tryz.pinned (.plain (OpenSpec.ofChange traceSortsSpec)) traceSortsCard

/-- THE SECOND FORM's CARD OF 'abreastlaw18.TraceTells'. -/
def traceTellsUptoCard : Claim7 := { stood := { row := traceTellsUptoRow, standIns := [], harness := (true, "6a15df1bad6905ecd1cda201fe7d5551518af59d53f360eab125d59f3c1d8115"), looks := true }, kinds := [], alts := [], laidByText := true, laidKinds := [.data, .data, .data, .data, .sentinel, .sentinel, .listed, .data, .pinned], laidTests := true, laidLooks := .later }
def TraceTellsUptoCardSaid : Prop := Claim7.holds Tryz.pinned (.plain (OpenSpec.upto traceTellsSpec)) traceTellsUptoCard

/-- THE SECOND FORM's CARD OF 'abreastlaw18.TraceReads'. -/
def traceReadsUptoCard : Claim7 := { stood := { row := traceReadsUptoRow, standIns := [], harness := (true, "6a15df1bad6905ecd1cda201fe7d5551518af59d53f360eab125d59f3c1d8115"), looks := true }, kinds := [], alts := [], laidByText := true, laidKinds := [.data, .data, .data, .data, .sentinel, .sentinel, .listed, .data, .pinned], laidTests := true, laidLooks := .later }
def TraceReadsUptoCardSaid : Prop := Claim7.holds Tryz.pinned (.plain (OpenSpec.upto traceReadsSpec)) traceReadsUptoCard

/-- THE SECOND FORM's CARD OF 'abreastlaw18.TraceBack'. -/
def traceBackUptoCard : Claim7 := { stood := { row := traceBackUptoRow, standIns := [], harness := (true, "6a15df1bad6905ecd1cda201fe7d5551518af59d53f360eab125d59f3c1d8115"), looks := true }, kinds := [], alts := [], laidByText := true, laidKinds := [.data, .data, .data, .data, .sentinel, .sentinel, .listed, .data, .pinned], laidTests := true, laidLooks := .later }
def TraceBackUptoCardSaid : Prop := Claim7.holds Tryz.pinned (.plain (OpenSpec.upto traceBackSpec)) traceBackUptoCard

/-- THE SECOND FORM's CARD OF 'abreastlaw18.TraceNames'. -/
def traceNamesUptoCard : Claim7 := { stood := { row := traceNamesUptoRow, standIns := [], harness := (true, "6a15df1bad6905ecd1cda201fe7d5551518af59d53f360eab125d59f3c1d8115"), looks := true }, kinds := [], alts := [], laidByText := true, laidKinds := [.data, .data, .data, .data, .sentinel, .sentinel, .listed, .data, .pinned], laidTests := true, laidLooks := .later }
def TraceNamesUptoCardSaid : Prop := Claim7.holds Tryz.pinned (.plain (OpenSpec.upto traceNamesSpec)) traceNamesUptoCard

/-- THE SECOND FORM's CARD OF 'abreastlaw18.TraceWoven'. -/
def traceWovenUptoCard : Claim7 := { stood := { row := traceWovenUptoRow, standIns := [], harness := (true, "6a15df1bad6905ecd1cda201fe7d5551518af59d53f360eab125d59f3c1d8115"), looks := true }, kinds := [], alts := [], laidByText := true, laidKinds := [.data, .data, .data, .data, .sentinel, .sentinel, .listed, .data, .pinned], laidTests := true, laidLooks := .later }
def TraceWovenUptoCardSaid : Prop := Claim7.holds Tryz.pinned (.plain (OpenSpec.upto traceWovenSpec)) traceWovenUptoCard

/-- THE SECOND FORM's CARD OF 'abreastlaw18.TraceSorts'. -/
def traceSortsUptoCard : Claim7 := { stood := { row := traceSortsUptoRow, standIns := [], harness := (true, "6a15df1bad6905ecd1cda201fe7d5551518af59d53f360eab125d59f3c1d8115"), looks := true }, kinds := [], alts := [], laidByText := true, laidKinds := [.data, .data, .data, .data, .sentinel, .sentinel, .listed, .data, .pinned], laidTests := true, laidLooks := .later }
def TraceSortsUptoCardSaid : Prop := Claim7.holds Tryz.pinned (.plain (OpenSpec.upto traceSortsSpec)) traceSortsUptoCard
end Rows
end Go.Proofs.YtbghkodcfedebaaGreatDoor
