/- SymmetryMoves's statement: for every input the law returns true and its arguments read afterwards as before; the condition is the statement's own: the tables of package level hold what the program's text lays. -/
import Derived.Test.YtlannahgjgpfcaaGreatDoorG11
namespace Go.Proofs.YtlannahgjgpfcaaGreatDoor
theorem symmetryMoves_card : Rows.SymmetryMovesCardSaid := Go.Ab.symmetryMoves.card
#print axioms symmetryMoves_card
end Go.Proofs.YtlannahgjgpfcaaGreatDoor
