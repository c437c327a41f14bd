/-
  DERIVED. GIVEN WITH THE SEED: THE CARDS: each row of YtjfeochdckkdeaaGreatDoorRows.lean that lists a variable, with what it lists TIED to the program's text (the seventh form; the later family's looks); each row that meets fmt, with fmt's text TOLD by the authors' own Lean function (tested against real Go, not proved from fmt's source: count such statements apart). THE CARD IS WHAT COUNTS. Prove the row's statement (the work); the ties are given (YtjfeochdckkdeaaGreatDoorTie.lean); close each card by the builder's one call (the guide's Derived/Test/ToyasCard.lean, 'card_holds'). Laid BY PROGRAM, IN A SANDBOX (cutbox-door.mjs). By AI agents, Wed Nov 11 2026. No macro, syntax, notation, axiom, sorry.
-/
import Derived.Test.YtjfeochdckkdeaaGreatDoorRows
import GoSem.ClaimSeven
namespace Go.Proofs.YtjfeochdckkdeaaGreatDoor
namespace Rows

/-- THE TIED CARD OF 'caissalaw10.LegalMoves'. -/
def legalMovesCard : Claim7 := { stood := { row := legalMovesRow, standIns := [], harness := (true, "654464f28acd50819d7cbca977ed9951ad224a97f12439ba9c354a331d3e28d5"), looks := true }, kinds := [], alts := [], laidByText := true, laidKinds := [.data, .widerDeep, .widerDeep, .widerDeep, .data, .data], laidTests := true, laidLooks := .later }
def LegalMovesCardSaid : Prop := Claim7.holds Tryz.pinned (.plain (OpenSpec.ofChange legalMovesSpec)) legalMovesCard

/-- THE TIED CARD OF 'caissalaw10.LegalTargets'. -/
def legalTargetsCard : Claim7 := { stood := { row := legalTargetsRow, standIns := [], harness := (true, "654464f28acd50819d7cbca977ed9951ad224a97f12439ba9c354a331d3e28d5"), looks := true }, kinds := [], alts := [], laidByText := true, laidKinds := [.data, .widerDeep, .widerDeep, .widerDeep, .data, .data], laidTests := true, laidLooks := .later }
def LegalTargetsCardSaid : Prop := Claim7.holds Tryz.pinned (.plain (OpenSpec.ofChange legalTargetsSpec)) legalTargetsCard

/-- THE TIED CARD OF 'caissalaw10.LegalIs'. -/
def legalIsCard : Claim7 := { stood := { row := legalIsRow, standIns := [], harness := (true, "654464f28acd50819d7cbca977ed9951ad224a97f12439ba9c354a331d3e28d5"), looks := true }, kinds := [], alts := [], laidByText := true, laidKinds := [.data, .widerDeep, .widerDeep, .widerDeep, .data, .data], laidTests := true, laidLooks := .later }
def LegalIsCardSaid : Prop := Claim7.holds Tryz.pinned (.plain (OpenSpec.ofChange legalIsSpec)) legalIsCard

/-- THE TIED CARD OF 'caissalaw10.LegalAfter'. -/
def legalAfterCard : Claim7 := { stood := { row := legalAfterRow, standIns := [], harness := (true, "654464f28acd50819d7cbca977ed9951ad224a97f12439ba9c354a331d3e28d5"), looks := true }, kinds := [], alts := [], laidByText := true, laidKinds := [.data, .widerDeep, .widerDeep, .widerDeep, .data, .data], laidTests := true, laidLooks := .later }
def LegalAfterCardSaid : Prop := Claim7.holds Tryz.pinned (.plain (OpenSpec.ofChange legalAfterSpec)) legalAfterCard

/-- THE TIED CARD OF 'caissalaw10.LegalHolds'. -/
def legalHoldsCard : Claim7 := { stood := { row := legalHoldsRow, standIns := [], harness := (true, "654464f28acd50819d7cbca977ed9951ad224a97f12439ba9c354a331d3e28d5"), looks := true }, kinds := [], alts := [], laidByText := true, laidKinds := [.data, .widerDeep, .widerDeep, .widerDeep, .data, .data], laidTests := true, laidLooks := .later }
def LegalHoldsCardSaid : Prop := Claim7.holds Tryz.pinned (.plain (OpenSpec.ofChange legalHoldsSpec)) legalHoldsCard

/-- THE SECOND FORM's CARD OF 'caissalaw10.LegalMoves'. -/
def legalMovesUptoCard : Claim7 := { stood := { row := legalMovesUptoRow, standIns := [], harness := (true, "654464f28acd50819d7cbca977ed9951ad224a97f12439ba9c354a331d3e28d5"), looks := true }, kinds := [], alts := [], laidByText := true, laidKinds := [.data, .widerDeep, .widerDeep, .widerDeep, .data, .data], laidTests := true, laidLooks := .later }
def LegalMovesUptoCardSaid : Prop := Claim7.holds Tryz.pinned (.plain (OpenSpec.upto legalMovesSpec)) legalMovesUptoCard

/-- THE SECOND FORM's CARD OF 'caissalaw10.LegalTargets'. -/
def legalTargetsUptoCard : Claim7 := { stood := { row := legalTargetsUptoRow, standIns := [], harness := (true, "654464f28acd50819d7cbca977ed9951ad224a97f12439ba9c354a331d3e28d5"), looks := true }, kinds := [], alts := [], laidByText := true, laidKinds := [.data, .widerDeep, .widerDeep, .widerDeep, .data, .data], laidTests := true, laidLooks := .later }
def LegalTargetsUptoCardSaid : Prop := Claim7.holds Tryz.pinned (.plain (OpenSpec.upto legalTargetsSpec)) legalTargetsUptoCard

/-- THE SECOND FORM's CARD OF 'caissalaw10.LegalIs'. -/
def legalIsUptoCard : Claim7 := { stood := { row := legalIsUptoRow, standIns := [], harness := (true, "654464f28acd50819d7cbca977ed9951ad224a97f12439ba9c354a331d3e28d5"), looks := true }, kinds := [], alts := [], laidByText := true, laidKinds := [.data, .widerDeep, .widerDeep, .widerDeep, .data, .data], laidTests := true, laidLooks := .later }
def LegalIsUptoCardSaid : Prop := Claim7.holds Tryz.pinned (.plain (OpenSpec.upto legalIsSpec)) legalIsUptoCard

/-- THE SECOND FORM's CARD OF 'caissalaw10.LegalAfter'. -/
def legalAfterUptoCard : Claim7 := { stood := { row := legalAfterUptoRow, standIns := [], harness := (true, "654464f28acd50819d7cbca977ed9951ad224a97f12439ba9c354a331d3e28d5"), looks := true }, kinds := [], alts := [], laidByText := true, laidKinds := [.data, .widerDeep, .widerDeep, .widerDeep, .data, .data], laidTests := true, laidLooks := .later }
def LegalAfterUptoCardSaid : Prop := Claim7.holds Tryz.pinned (.plain (OpenSpec.upto legalAfterSpec)) legalAfterUptoCard

/-- THE SECOND FORM's CARD OF 'caissalaw10.LegalHolds'. -/
def legalHoldsUptoCard : Claim7 := { stood := { row := legalHoldsUptoRow, standIns := [], harness := (true, "654464f28acd50819d7cbca977ed9951ad224a97f12439ba9c354a331d3e28d5"), looks := true }, kinds := [], alts := [], laidByText := true, laidKinds := [.data, .widerDeep, .widerDeep, .widerDeep, .data, .data], laidTests := true, laidLooks := .later }
def LegalHoldsUptoCardSaid : Prop := Claim7.holds Tryz.pinned (.plain (OpenSpec.upto legalHoldsSpec)) legalHoldsUptoCard
end Rows
end Go.Proofs.YtjfeochdckkdeaaGreatDoor
