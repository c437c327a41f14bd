/- LegalHolds's statement: for every input the law returns true and its arguments read afterwards as before; the condition is the statement's own: the tables of package level hold what the program's text lays. -/
import Derived.Test.YtppdngemnbflmaaGreatDoorG15
namespace Go.Proofs.YtppdngemnbflmaaGreatDoor
theorem legalHolds_card : Rows.LegalHoldsCardSaid := Go.Ab.legalHolds.card
#print axioms legalHolds_card
end Go.Proofs.YtppdngemnbflmaaGreatDoor
