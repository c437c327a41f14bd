/-
  DERIVED. GIVEN WITH THE SEED: THE CARDS: each row of YtlannahgjgpfcaaGreatDoorRows.lean that lists a variable, with what it lists TIED to the program's text (the seventh form; the later family's looks); each row that meets fmt, with fmt's text TOLD by the authors' own Lean function (tested against real Go, not proved from fmt's source: count such statements apart). THE CARD IS WHAT COUNTS. Prove the row's statement (the work); the ties are given (YtlannahgjgpfcaaGreatDoorTie.lean); close each card by the builder's one call (the guide's Derived/Test/ToyasCard.lean, 'card_holds'). Laid BY PROGRAM, IN A SANDBOX (cutbox-door.mjs). By AI agents, Wed Nov 11 2026. No macro, syntax, notation, axiom, sorry.
-/
import Derived.Test.YtlannahgjgpfcaaGreatDoorRows
import GoSem.ClaimSeven
namespace Go.Proofs.YtlannahgjgpfcaaGreatDoor
namespace Rows

/-- THE TIED CARD OF 'caissalaw19.SymmetryGroup'. -/
def symmetryGroupCard : Claim7 := { stood := { row := symmetryGroupRow, standIns := [], harness := (true, "02079e921b3043500c045e738ab3e756b8ea31bf220cee2cf49ca2aab9168a2a"), looks := true }, kinds := [], alts := [], laidByText := true, laidKinds := [.data, .data, .data, .data, .widerDeep, .widerDeep, .widerDeep, .data], laidTests := true, laidLooks := .later }
def SymmetryGroupCardSaid : Prop := Claim7.holds Tryz.pinned (.plain (OpenSpec.ofChange symmetryGroupSpec)) symmetryGroupCard

/-- THE TIED CARD OF 'caissalaw19.SymmetryCanonical'. -/
def symmetryCanonicalCard : Claim7 := { stood := { row := symmetryCanonicalRow, standIns := [], harness := (true, "02079e921b3043500c045e738ab3e756b8ea31bf220cee2cf49ca2aab9168a2a"), looks := true }, kinds := [], alts := [], laidByText := true, laidKinds := [.data, .data, .data, .data, .widerDeep, .widerDeep, .widerDeep, .data], laidTests := true, laidLooks := .later }
def SymmetryCanonicalCardSaid : Prop := Claim7.holds Tryz.pinned (.plain (OpenSpec.ofChange symmetryCanonicalSpec)) symmetryCanonicalCard

/-- THE TIED CARD OF 'caissalaw19.SymmetryPositions'. -/
def symmetryPositionsCard : Claim7 := { stood := { row := symmetryPositionsRow, standIns := [], harness := (true, "02079e921b3043500c045e738ab3e756b8ea31bf220cee2cf49ca2aab9168a2a"), looks := true }, kinds := [], alts := [], laidByText := true, laidKinds := [.data, .data, .data, .data, .widerDeep, .widerDeep, .widerDeep, .data], laidTests := true, laidLooks := .later }
def SymmetryPositionsCardSaid : Prop := Claim7.holds Tryz.pinned (.plain (OpenSpec.ofChange symmetryPositionsSpec)) symmetryPositionsCard

/-- THE TIED CARD OF 'caissalaw19.SymmetryMoves'. -/
def symmetryMovesCard : Claim7 := { stood := { row := symmetryMovesRow, standIns := [], harness := (true, "02079e921b3043500c045e738ab3e756b8ea31bf220cee2cf49ca2aab9168a2a"), looks := true }, kinds := [], alts := [], laidByText := true, laidKinds := [.data, .data, .data, .data, .widerDeep, .widerDeep, .widerDeep, .data], laidTests := true, laidLooks := .later }
def SymmetryMovesCardSaid : Prop := Claim7.holds Tryz.pinned (.plain (OpenSpec.ofChange symmetryMovesSpec)) symmetryMovesCard

/-- THE TIED CARD OF 'caissalaw19.SymmetrySquares'. -/
def symmetrySquaresCard : Claim7 := { stood := { row := symmetrySquaresRow, standIns := [], harness := (true, "02079e921b3043500c045e738ab3e756b8ea31bf220cee2cf49ca2aab9168a2a"), looks := true }, kinds := [], alts := [], laidByText := true, laidKinds := [.data, .data, .data, .data, .widerDeep, .widerDeep, .widerDeep, .data], laidTests := true, laidLooks := .later }
def SymmetrySquaresCardSaid : Prop := Claim7.holds Tryz.pinned (.plain (OpenSpec.ofChange symmetrySquaresSpec)) symmetrySquaresCard

/-- THE TIED CARD OF 'caissalaw19.SymmetryHolds'. -/
def symmetryHoldsCard : Claim7 := { stood := { row := symmetryHoldsRow, standIns := [], harness := (true, "02079e921b3043500c045e738ab3e756b8ea31bf220cee2cf49ca2aab9168a2a"), looks := true }, kinds := [], alts := [], laidByText := true, laidKinds := [.data, .data, .data, .data, .widerDeep, .widerDeep, .widerDeep, .data, .data], laidTests := true, laidLooks := .later }
def SymmetryHoldsCardSaid : Prop := Claim7.holds Tryz.pinned (.plain (OpenSpec.ofChange symmetryHoldsSpec)) symmetryHoldsCard

/-- THE SECOND FORM's CARD OF 'caissalaw19.SymmetryGroup'. -/
def symmetryGroupUptoCard : Claim7 := { stood := { row := symmetryGroupUptoRow, standIns := [], harness := (true, "02079e921b3043500c045e738ab3e756b8ea31bf220cee2cf49ca2aab9168a2a"), looks := true }, kinds := [], alts := [], laidByText := true, laidKinds := [.data, .data, .data, .data, .widerDeep, .widerDeep, .widerDeep, .data], laidTests := true, laidLooks := .later }
def SymmetryGroupUptoCardSaid : Prop := Claim7.holds Tryz.pinned (.plain (OpenSpec.upto symmetryGroupSpec)) symmetryGroupUptoCard

/-- THE SECOND FORM's CARD OF 'caissalaw19.SymmetryCanonical'. -/
def symmetryCanonicalUptoCard : Claim7 := { stood := { row := symmetryCanonicalUptoRow, standIns := [], harness := (true, "02079e921b3043500c045e738ab3e756b8ea31bf220cee2cf49ca2aab9168a2a"), looks := true }, kinds := [], alts := [], laidByText := true, laidKinds := [.data, .data, .data, .data, .widerDeep, .widerDeep, .widerDeep, .data], laidTests := true, laidLooks := .later }
def SymmetryCanonicalUptoCardSaid : Prop := Claim7.holds Tryz.pinned (.plain (OpenSpec.upto symmetryCanonicalSpec)) symmetryCanonicalUptoCard

/-- THE SECOND FORM's CARD OF 'caissalaw19.SymmetryPositions'. -/
def symmetryPositionsUptoCard : Claim7 := { stood := { row := symmetryPositionsUptoRow, standIns := [], harness := (true, "02079e921b3043500c045e738ab3e756b8ea31bf220cee2cf49ca2aab9168a2a"), looks := true }, kinds := [], alts := [], laidByText := true, laidKinds := [.data, .data, .data, .data, .widerDeep, .widerDeep, .widerDeep, .data], laidTests := true, laidLooks := .later }
def SymmetryPositionsUptoCardSaid : Prop := Claim7.holds Tryz.pinned (.plain (OpenSpec.upto symmetryPositionsSpec)) symmetryPositionsUptoCard

/-- THE SECOND FORM's CARD OF 'caissalaw19.SymmetryMoves'. -/
def symmetryMovesUptoCard : Claim7 := { stood := { row := symmetryMovesUptoRow, standIns := [], harness := (true, "02079e921b3043500c045e738ab3e756b8ea31bf220cee2cf49ca2aab9168a2a"), looks := true }, kinds := [], alts := [], laidByText := true, laidKinds := [.data, .data, .data, .data, .widerDeep, .widerDeep, .widerDeep, .data], laidTests := true, laidLooks := .later }
def SymmetryMovesUptoCardSaid : Prop := Claim7.holds Tryz.pinned (.plain (OpenSpec.upto symmetryMovesSpec)) symmetryMovesUptoCard

/-- THE SECOND FORM's CARD OF 'caissalaw19.SymmetrySquares'. -/
def symmetrySquaresUptoCard : Claim7 := { stood := { row := symmetrySquaresUptoRow, standIns := [], harness := (true, "02079e921b3043500c045e738ab3e756b8ea31bf220cee2cf49ca2aab9168a2a"), looks := true }, kinds := [], alts := [], laidByText := true, laidKinds := [.data, .data, .data, .data, .widerDeep, .widerDeep, .widerDeep, .data], laidTests := true, laidLooks := .later }
def SymmetrySquaresUptoCardSaid : Prop := Claim7.holds Tryz.pinned (.plain (OpenSpec.upto symmetrySquaresSpec)) symmetrySquaresUptoCard

/-- THE SECOND FORM's CARD OF 'caissalaw19.SymmetryHolds'. -/
def symmetryHoldsUptoCard : Claim7 := { stood := { row := symmetryHoldsUptoRow, standIns := [], harness := (true, "02079e921b3043500c045e738ab3e756b8ea31bf220cee2cf49ca2aab9168a2a"), looks := true }, kinds := [], alts := [], laidByText := true, laidKinds := [.data, .data, .data, .data, .widerDeep, .widerDeep, .widerDeep, .data, .data], laidTests := true, laidLooks := .later }
def SymmetryHoldsUptoCardSaid : Prop := Claim7.holds Tryz.pinned (.plain (OpenSpec.upto symmetryHoldsSpec)) symmetryHoldsUptoCard
end Rows
end Go.Proofs.YtlannahgjgpfcaaGreatDoor
