/- PseudoMoves's statement: for every input the law returns true and its arguments read afterwards as before; the condition is the statement's own: the tables of package level hold what the program's text lays. -/
import Derived.Test.YtcigcehbhhjaiaaGreatDoorG14
namespace Go.Proofs.YtcigcehbhhjaiaaGreatDoor
theorem pseudoMoves_card : Rows.PseudoMovesCardSaid := Go.Ab.pseudoMoves.card
#print axioms pseudoMoves_card
end Go.Proofs.YtcigcehbhhjaiaaGreatDoor
