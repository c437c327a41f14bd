/- LegalMoves's statement: for every input the law returns true and its arguments read afterwards as before; the condition is the statement's own: the tables of package level hold what the program's text lays. -/
import Derived.Test.YtjfeochdckkdeaaGreatDoorG14
namespace Go.Proofs.YtjfeochdckkdeaaGreatDoor
theorem legalMoves_card : Rows.LegalMovesCardSaid := Go.Ab.legalMoves.card
#print axioms legalMoves_card
end Go.Proofs.YtjfeochdckkdeaaGreatDoor
