/-
  DERIVED. GIVEN WITH THE SEED: THE CARDS: each row of YtcigcehbhhjaiaaGreatDoorRows.lean that lists a variable, with what it lists TIED to the program's text (the seventh form; the later family's looks); each row that meets fmt, with fmt's text TOLD by the authors' own Lean function (tested against real Go, not proved from fmt's source: count such statements apart). THE CARD IS WHAT COUNTS. Prove the row's statement (the work); the ties are given (YtcigcehbhhjaiaaGreatDoorTie.lean); close each card by the builder's one call (the guide's Derived/Test/ToyasCard.lean, 'card_holds'). Laid BY PROGRAM, IN A SANDBOX (cutbox-door.mjs). By AI agents, Wed Nov 11 2026. No macro, syntax, notation, axiom, sorry.
-/
import Derived.Test.YtcigcehbhhjaiaaGreatDoorRows
import GoSem.ClaimSeven
namespace Go.Proofs.YtcigcehbhhjaiaaGreatDoor
namespace Rows

/-- THE TIED CARD OF 'caissalaw08.MakingMakes'. -/
def makingMakesCard : Claim7 := { stood := { row := makingMakesRow, standIns := [], harness := (true, "95765a03a7382e1b7a370a5607df474a9b09b8198045f51c8b77f276bdce9d64"), looks := true }, kinds := [], alts := [], laidByText := true, laidKinds := [.widerDeep, .widerDeep, .widerDeep, .data, .data], laidTests := true, laidLooks := .later }
def MakingMakesCardSaid : Prop := Claim7.holds Tryz.pinned (.plain (OpenSpec.ofChange makingMakesSpec)) makingMakesCard

/-- THE TIED CARD OF 'caissalaw08.MakingPlays'. -/
def makingPlaysCard : Claim7 := { stood := { row := makingPlaysRow, standIns := [], harness := (true, "95765a03a7382e1b7a370a5607df474a9b09b8198045f51c8b77f276bdce9d64"), looks := true }, kinds := [], alts := [], laidByText := true, laidKinds := [.widerDeep, .widerDeep, .widerDeep, .data, .data], laidTests := true, laidLooks := .later }
def MakingPlaysCardSaid : Prop := Claim7.holds Tryz.pinned (.plain (OpenSpec.ofChange makingPlaysSpec)) makingPlaysCard

/-- THE TIED CARD OF 'caissalaw09.PseudoMoves'. -/
def pseudoMovesCard : Claim7 := { stood := { row := pseudoMovesRow, standIns := [], harness := (true, "95765a03a7382e1b7a370a5607df474a9b09b8198045f51c8b77f276bdce9d64"), looks := true }, kinds := [], alts := [], laidByText := true, laidKinds := [.data, .widerDeep, .widerDeep, .widerDeep, .data], laidTests := true, laidLooks := .later }
def PseudoMovesCardSaid : Prop := Claim7.holds Tryz.pinned (.plain (OpenSpec.ofChange pseudoMovesSpec)) pseudoMovesCard

/-- THE TIED CARD OF 'caissalaw09.PseudoIs'. -/
def pseudoIsCard : Claim7 := { stood := { row := pseudoIsRow, standIns := [], harness := (true, "95765a03a7382e1b7a370a5607df474a9b09b8198045f51c8b77f276bdce9d64"), looks := true }, kinds := [], alts := [], laidByText := true, laidKinds := [.data, .widerDeep, .widerDeep, .widerDeep, .data], laidTests := true, laidLooks := .later }
def PseudoIsCardSaid : Prop := Claim7.holds Tryz.pinned (.plain (OpenSpec.ofChange pseudoIsSpec)) pseudoIsCard

/-- THE TIED CARD OF 'caissalaw09.PseudoCaptures'. -/
def pseudoCapturesCard : Claim7 := { stood := { row := pseudoCapturesRow, standIns := [], harness := (true, "95765a03a7382e1b7a370a5607df474a9b09b8198045f51c8b77f276bdce9d64"), looks := true }, kinds := [], alts := [], laidByText := true, laidKinds := [.data, .widerDeep, .widerDeep, .widerDeep, .data], laidTests := true, laidLooks := .later }
def PseudoCapturesCardSaid : Prop := Claim7.holds Tryz.pinned (.plain (OpenSpec.ofChange pseudoCapturesSpec)) pseudoCapturesCard

/-- THE TIED CARD OF 'caissalaw08.MakingUnmakes'. -/
def makingUnmakesCard : Claim7 := { stood := { row := makingUnmakesRow, standIns := [], harness := (true, "95765a03a7382e1b7a370a5607df474a9b09b8198045f51c8b77f276bdce9d64"), looks := true }, kinds := [], alts := [], laidByText := true, laidKinds := [.widerDeep, .widerDeep, .widerDeep, .data, .data], laidTests := true, laidLooks := .later }
def MakingUnmakesCardSaid : Prop := Claim7.holds Tryz.pinned (.plain (OpenSpec.ofChange makingUnmakesSpec)) makingUnmakesCard

/-- THE TIED CARD OF 'caissalaw08.MakingBacks'. -/
def makingBacksCard : Claim7 := { stood := { row := makingBacksRow, standIns := [], harness := (true, "95765a03a7382e1b7a370a5607df474a9b09b8198045f51c8b77f276bdce9d64"), looks := true }, kinds := [], alts := [], laidByText := true, laidKinds := [.widerDeep, .widerDeep, .widerDeep, .data, .data], laidTests := true, laidLooks := .later }
def MakingBacksCardSaid : Prop := Claim7.holds Tryz.pinned (.plain (OpenSpec.ofChange makingBacksSpec)) makingBacksCard

/-- THE TIED CARD OF 'caissalaw08.MakingHolds'. -/
def makingHoldsCard : Claim7 := { stood := { row := makingHoldsRow, standIns := [], harness := (true, "95765a03a7382e1b7a370a5607df474a9b09b8198045f51c8b77f276bdce9d64"), looks := true }, kinds := [], alts := [], laidByText := true, laidKinds := [.widerDeep, .widerDeep, .widerDeep, .data, .data], laidTests := true, laidLooks := .later }
def MakingHoldsCardSaid : Prop := Claim7.holds Tryz.pinned (.plain (OpenSpec.ofChange makingHoldsSpec)) makingHoldsCard

/-- THE TIED CARD OF 'caissalaw09.PseudoHolds'. -/
def pseudoHoldsCard : Claim7 := { stood := { row := pseudoHoldsRow, standIns := [], harness := (true, "95765a03a7382e1b7a370a5607df474a9b09b8198045f51c8b77f276bdce9d64"), looks := true }, kinds := [], alts := [], laidByText := true, laidKinds := [.data, .widerDeep, .widerDeep, .widerDeep, .data, .data], laidTests := true, laidLooks := .later }
def PseudoHoldsCardSaid : Prop := Claim7.holds Tryz.pinned (.plain (OpenSpec.ofChange pseudoHoldsSpec)) pseudoHoldsCard

/-- THE SECOND FORM's CARD OF 'caissalaw08.MakingMakes'. -/
def makingMakesUptoCard : Claim7 := { stood := { row := makingMakesUptoRow, standIns := [], harness := (true, "95765a03a7382e1b7a370a5607df474a9b09b8198045f51c8b77f276bdce9d64"), looks := true }, kinds := [], alts := [], laidByText := true, laidKinds := [.widerDeep, .widerDeep, .widerDeep, .data, .data], laidTests := true, laidLooks := .later }
def MakingMakesUptoCardSaid : Prop := Claim7.holds Tryz.pinned (.plain (OpenSpec.upto makingMakesSpec)) makingMakesUptoCard

/-- THE SECOND FORM's CARD OF 'caissalaw08.MakingPlays'. -/
def makingPlaysUptoCard : Claim7 := { stood := { row := makingPlaysUptoRow, standIns := [], harness := (true, "95765a03a7382e1b7a370a5607df474a9b09b8198045f51c8b77f276bdce9d64"), looks := true }, kinds := [], alts := [], laidByText := true, laidKinds := [.widerDeep, .widerDeep, .widerDeep, .data, .data], laidTests := true, laidLooks := .later }
def MakingPlaysUptoCardSaid : Prop := Claim7.holds Tryz.pinned (.plain (OpenSpec.upto makingPlaysSpec)) makingPlaysUptoCard

/-- THE SECOND FORM's CARD OF 'caissalaw09.PseudoMoves'. -/
def pseudoMovesUptoCard : Claim7 := { stood := { row := pseudoMovesUptoRow, standIns := [], harness := (true, "95765a03a7382e1b7a370a5607df474a9b09b8198045f51c8b77f276bdce9d64"), looks := true }, kinds := [], alts := [], laidByText := true, laidKinds := [.data, .widerDeep, .widerDeep, .widerDeep, .data], laidTests := true, laidLooks := .later }
def PseudoMovesUptoCardSaid : Prop := Claim7.holds Tryz.pinned (.plain (OpenSpec.upto pseudoMovesSpec)) pseudoMovesUptoCard

/-- THE SECOND FORM's CARD OF 'caissalaw09.PseudoIs'. -/
def pseudoIsUptoCard : Claim7 := { stood := { row := pseudoIsUptoRow, standIns := [], harness := (true, "95765a03a7382e1b7a370a5607df474a9b09b8198045f51c8b77f276bdce9d64"), looks := true }, kinds := [], alts := [], laidByText := true, laidKinds := [.data, .widerDeep, .widerDeep, .widerDeep, .data], laidTests := true, laidLooks := .later }
def PseudoIsUptoCardSaid : Prop := Claim7.holds Tryz.pinned (.plain (OpenSpec.upto pseudoIsSpec)) pseudoIsUptoCard

/-- THE SECOND FORM's CARD OF 'caissalaw09.PseudoCaptures'. -/
def pseudoCapturesUptoCard : Claim7 := { stood := { row := pseudoCapturesUptoRow, standIns := [], harness := (true, "95765a03a7382e1b7a370a5607df474a9b09b8198045f51c8b77f276bdce9d64"), looks := true }, kinds := [], alts := [], laidByText := true, laidKinds := [.data, .widerDeep, .widerDeep, .widerDeep, .data], laidTests := true, laidLooks := .later }
def PseudoCapturesUptoCardSaid : Prop := Claim7.holds Tryz.pinned (.plain (OpenSpec.upto pseudoCapturesSpec)) pseudoCapturesUptoCard

/-- THE SECOND FORM's CARD OF 'caissalaw08.MakingUnmakes'. -/
def makingUnmakesUptoCard : Claim7 := { stood := { row := makingUnmakesUptoRow, standIns := [], harness := (true, "95765a03a7382e1b7a370a5607df474a9b09b8198045f51c8b77f276bdce9d64"), looks := true }, kinds := [], alts := [], laidByText := true, laidKinds := [.widerDeep, .widerDeep, .widerDeep, .data, .data], laidTests := true, laidLooks := .later }
def MakingUnmakesUptoCardSaid : Prop := Claim7.holds Tryz.pinned (.plain (OpenSpec.upto makingUnmakesSpec)) makingUnmakesUptoCard

/-- THE SECOND FORM's CARD OF 'caissalaw08.MakingBacks'. -/
def makingBacksUptoCard : Claim7 := { stood := { row := makingBacksUptoRow, standIns := [], harness := (true, "95765a03a7382e1b7a370a5607df474a9b09b8198045f51c8b77f276bdce9d64"), looks := true }, kinds := [], alts := [], laidByText := true, laidKinds := [.widerDeep, .widerDeep, .widerDeep, .data, .data], laidTests := true, laidLooks := .later }
def MakingBacksUptoCardSaid : Prop := Claim7.holds Tryz.pinned (.plain (OpenSpec.upto makingBacksSpec)) makingBacksUptoCard

/-- THE SECOND FORM's CARD OF 'caissalaw08.MakingHolds'. -/
def makingHoldsUptoCard : Claim7 := { stood := { row := makingHoldsUptoRow, standIns := [], harness := (true, "95765a03a7382e1b7a370a5607df474a9b09b8198045f51c8b77f276bdce9d64"), looks := true }, kinds := [], alts := [], laidByText := true, laidKinds := [.widerDeep, .widerDeep, .widerDeep, .data, .data], laidTests := true, laidLooks := .later }
def MakingHoldsUptoCardSaid : Prop := Claim7.holds Tryz.pinned (.plain (OpenSpec.upto makingHoldsSpec)) makingHoldsUptoCard

/-- THE SECOND FORM's CARD OF 'caissalaw09.PseudoHolds'. -/
def pseudoHoldsUptoCard : Claim7 := { stood := { row := pseudoHoldsUptoRow, standIns := [], harness := (true, "95765a03a7382e1b7a370a5607df474a9b09b8198045f51c8b77f276bdce9d64"), looks := true }, kinds := [], alts := [], laidByText := true, laidKinds := [.data, .widerDeep, .widerDeep, .widerDeep, .data, .data], laidTests := true, laidLooks := .later }
def PseudoHoldsUptoCardSaid : Prop := Claim7.holds Tryz.pinned (.plain (OpenSpec.upto pseudoHoldsSpec)) pseudoHoldsUptoCard
end Rows
end Go.Proofs.YtcigcehbhhjaiaaGreatDoor
