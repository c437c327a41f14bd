/- LegalAfter's statement: for every input the law returns true and its arguments read afterwards as before; the condition is the statement's own: the tables of package level hold what the program's text lays. -/
import Derived.Test.YtjfeochdckkdeaaGreatDoorG14
namespace Go.Proofs.YtjfeochdckkdeaaGreatDoor
theorem legalAfter_card : Rows.LegalAfterCardSaid := Go.Ab.legalAfter.card
#print axioms legalAfter_card
end Go.Proofs.YtjfeochdckkdeaaGreatDoor
