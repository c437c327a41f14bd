/- LegalTargets's statement: for every input the law returns true and its arguments read afterwards as before; the condition is the statement's own: the tables of package level hold what the program's text lays. -/
import Derived.Test.YtjfeochdckkdeaaGreatDoorG13
namespace Go.Proofs.YtjfeochdckkdeaaGreatDoor
theorem legalTargets_card : Rows.LegalTargetsCardSaid := Go.Ab.legalTargets.card
#print axioms legalTargets_card
end Go.Proofs.YtjfeochdckkdeaaGreatDoor
