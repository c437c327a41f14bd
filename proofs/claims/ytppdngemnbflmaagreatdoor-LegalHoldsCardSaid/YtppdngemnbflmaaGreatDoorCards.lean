/-
  DERIVED. GIVEN WITH THE SEED: THE CARDS: each row of YtppdngemnbflmaaGreatDoorRows.lean that lists a variable, with what it lists TIED to the program's text (the seventh form; the later family's looks); each row that meets fmt, with fmt's text TOLD by the authors' own Lean function (tested against real Go, not proved from fmt's source: count such statements apart). THE CARD IS WHAT COUNTS. Prove the row's statement (the work); the ties are given (YtppdngemnbflmaaGreatDoorTie.lean); close each card by the builder's one call (the guide's Derived/Test/ToyasCard.lean, 'card_holds'). Laid BY PROGRAM, IN A SANDBOX (cutbox-door.mjs). By AI agents, Wed Nov 11 2026. No macro, syntax, notation, axiom, sorry.
-/
import Derived.Test.YtppdngemnbflmaaGreatDoorRows
import GoSem.ClaimSeven
namespace Go.Proofs.YtppdngemnbflmaaGreatDoor
namespace Rows

/-- THE TIED CARD OF 'caissalaw10.LegalHolds'. -/
def legalHoldsCard : Claim7 := { stood := { row := legalHoldsRow, standIns := [], harness := (true, "920d541c82ae79f1f9d525bc3632bfdba045bbbea206d1e4e9b3d058500fbe2d"), looks := true }, kinds := [], alts := [], laidByText := true, laidKinds := [.data, .widerDeep, .widerDeep, .widerDeep, .data, .data], laidTests := true, laidLooks := .later }
def LegalHoldsCardSaid : Prop := Claim7.holds Tryz.pinned (.plain (OpenSpec.ofChange legalHoldsSpec)) legalHoldsCard

/-- THE SECOND FORM's CARD OF 'caissalaw10.LegalHolds'. -/
def legalHoldsUptoCard : Claim7 := { stood := { row := legalHoldsUptoRow, standIns := [], harness := (true, "920d541c82ae79f1f9d525bc3632bfdba045bbbea206d1e4e9b3d058500fbe2d"), looks := true }, kinds := [], alts := [], laidByText := true, laidKinds := [.data, .widerDeep, .widerDeep, .widerDeep, .data, .data], laidTests := true, laidLooks := .later }
def LegalHoldsUptoCardSaid : Prop := Claim7.holds Tryz.pinned (.plain (OpenSpec.upto legalHoldsSpec)) legalHoldsUptoCard
end Rows
end Go.Proofs.YtppdngemnbflmaaGreatDoor
