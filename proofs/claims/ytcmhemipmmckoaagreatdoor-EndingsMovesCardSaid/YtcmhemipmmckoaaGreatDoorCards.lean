/-
  DERIVED. GIVEN WITH THE SEED: THE CARDS: each row of YtcmhemipmmckoaaGreatDoorRows.lean that lists a variable, with what it lists TIED to the program's text (the seventh form; the later family's looks); each row that meets fmt, with fmt's text TOLD by the authors' own Lean function (tested against real Go, not proved from fmt's source: count such statements apart). THE CARD IS WHAT COUNTS. Prove the row's statement (the work); the ties are given (YtcmhemipmmckoaaGreatDoorTie.lean); close each card by the builder's one call (the guide's Derived/Test/ToyasCard.lean, 'card_holds'). Laid BY PROGRAM, IN A SANDBOX (cutbox-door.mjs). By AI agents, Wed Nov 11 2026. No macro, syntax, notation, axiom, sorry.
-/
import Derived.Test.YtcmhemipmmckoaaGreatDoorRows
import GoSem.ClaimSeven
namespace Go.Proofs.YtcmhemipmmckoaaGreatDoor
namespace Rows

/-- THE TIED CARD OF 'caissalaw12.EndingsOf'. -/
def endingsOfCard : Claim7 := { stood := { row := endingsOfRow, standIns := [], harness := (true, "06ef714ad6f6c1d3ce176efaddcebc3d35c62c744e5941a778ad473e20856809"), looks := true }, kinds := [], alts := [], laidByText := true, laidKinds := [.data, .widerDeep, .widerDeep, .widerDeep, .data, .data], laidTests := true, laidLooks := .later }
def EndingsOfCardSaid : Prop := Claim7.holds Tryz.pinned (.plain (OpenSpec.ofChange endingsOfSpec)) endingsOfCard

/-- THE TIED CARD OF 'caissalaw12.EndingsMoves'. -/
def endingsMovesCard : Claim7 := { stood := { row := endingsMovesRow, standIns := [], harness := (true, "06ef714ad6f6c1d3ce176efaddcebc3d35c62c744e5941a778ad473e20856809"), looks := true }, kinds := [], alts := [], laidByText := true, laidKinds := [.data, .widerDeep, .widerDeep, .widerDeep, .data, .data], laidTests := true, laidLooks := .later }
def EndingsMovesCardSaid : Prop := Claim7.holds Tryz.pinned (.plain (OpenSpec.ofChange endingsMovesSpec)) endingsMovesCard

/-- THE TIED CARD OF 'caissalaw12.EndingsFlights'. -/
def endingsFlightsCard : Claim7 := { stood := { row := endingsFlightsRow, standIns := [], harness := (true, "06ef714ad6f6c1d3ce176efaddcebc3d35c62c744e5941a778ad473e20856809"), looks := true }, kinds := [], alts := [], laidByText := true, laidKinds := [.data, .widerDeep, .widerDeep, .widerDeep, .data, .data], laidTests := true, laidLooks := .later }
def EndingsFlightsCardSaid : Prop := Claim7.holds Tryz.pinned (.plain (OpenSpec.ofChange endingsFlightsSpec)) endingsFlightsCard

/-- THE TIED CARD OF 'caissalaw12.EndingsTexts'. -/
def endingsTextsCard : Claim7 := { stood := { row := endingsTextsRow, standIns := [], harness := (true, "06ef714ad6f6c1d3ce176efaddcebc3d35c62c744e5941a778ad473e20856809"), looks := true }, kinds := [], alts := [], laidByText := true, laidKinds := [.data, .widerDeep, .widerDeep, .widerDeep, .data, .data], laidTests := true, laidLooks := .later }
def EndingsTextsCardSaid : Prop := Claim7.holds Tryz.pinned (.plain (OpenSpec.ofChange endingsTextsSpec)) endingsTextsCard

/-- THE TIED CARD OF 'caissalaw12.EndingsHolds'. -/
def endingsHoldsCard : Claim7 := { stood := { row := endingsHoldsRow, standIns := [], harness := (true, "06ef714ad6f6c1d3ce176efaddcebc3d35c62c744e5941a778ad473e20856809"), looks := true }, kinds := [], alts := [], laidByText := true, laidKinds := [.data, .widerDeep, .widerDeep, .widerDeep, .data, .data], laidTests := true, laidLooks := .later }
def EndingsHoldsCardSaid : Prop := Claim7.holds Tryz.pinned (.plain (OpenSpec.ofChange endingsHoldsSpec)) endingsHoldsCard

/-- THE SECOND FORM's CARD OF 'caissalaw12.EndingsOf'. -/
def endingsOfUptoCard : Claim7 := { stood := { row := endingsOfUptoRow, standIns := [], harness := (true, "06ef714ad6f6c1d3ce176efaddcebc3d35c62c744e5941a778ad473e20856809"), looks := true }, kinds := [], alts := [], laidByText := true, laidKinds := [.data, .widerDeep, .widerDeep, .widerDeep, .data, .data], laidTests := true, laidLooks := .later }
def EndingsOfUptoCardSaid : Prop := Claim7.holds Tryz.pinned (.plain (OpenSpec.upto endingsOfSpec)) endingsOfUptoCard

/-- THE SECOND FORM's CARD OF 'caissalaw12.EndingsMoves'. -/
def endingsMovesUptoCard : Claim7 := { stood := { row := endingsMovesUptoRow, standIns := [], harness := (true, "06ef714ad6f6c1d3ce176efaddcebc3d35c62c744e5941a778ad473e20856809"), looks := true }, kinds := [], alts := [], laidByText := true, laidKinds := [.data, .widerDeep, .widerDeep, .widerDeep, .data, .data], laidTests := true, laidLooks := .later }
def EndingsMovesUptoCardSaid : Prop := Claim7.holds Tryz.pinned (.plain (OpenSpec.upto endingsMovesSpec)) endingsMovesUptoCard

/-- THE SECOND FORM's CARD OF 'caissalaw12.EndingsFlights'. -/
def endingsFlightsUptoCard : Claim7 := { stood := { row := endingsFlightsUptoRow, standIns := [], harness := (true, "06ef714ad6f6c1d3ce176efaddcebc3d35c62c744e5941a778ad473e20856809"), looks := true }, kinds := [], alts := [], laidByText := true, laidKinds := [.data, .widerDeep, .widerDeep, .widerDeep, .data, .data], laidTests := true, laidLooks := .later }
def EndingsFlightsUptoCardSaid : Prop := Claim7.holds Tryz.pinned (.plain (OpenSpec.upto endingsFlightsSpec)) endingsFlightsUptoCard

/-- THE SECOND FORM's CARD OF 'caissalaw12.EndingsTexts'. -/
def endingsTextsUptoCard : Claim7 := { stood := { row := endingsTextsUptoRow, standIns := [], harness := (true, "06ef714ad6f6c1d3ce176efaddcebc3d35c62c744e5941a778ad473e20856809"), looks := true }, kinds := [], alts := [], laidByText := true, laidKinds := [.data, .widerDeep, .widerDeep, .widerDeep, .data, .data], laidTests := true, laidLooks := .later }
def EndingsTextsUptoCardSaid : Prop := Claim7.holds Tryz.pinned (.plain (OpenSpec.upto endingsTextsSpec)) endingsTextsUptoCard

/-- THE SECOND FORM's CARD OF 'caissalaw12.EndingsHolds'. -/
def endingsHoldsUptoCard : Claim7 := { stood := { row := endingsHoldsUptoRow, standIns := [], harness := (true, "06ef714ad6f6c1d3ce176efaddcebc3d35c62c744e5941a778ad473e20856809"), looks := true }, kinds := [], alts := [], laidByText := true, laidKinds := [.data, .widerDeep, .widerDeep, .widerDeep, .data, .data], laidTests := true, laidLooks := .later }
def EndingsHoldsUptoCardSaid : Prop := Claim7.holds Tryz.pinned (.plain (OpenSpec.upto endingsHoldsSpec)) endingsHoldsUptoCard
end Rows
end Go.Proofs.YtcmhemipmmckoaaGreatDoor
