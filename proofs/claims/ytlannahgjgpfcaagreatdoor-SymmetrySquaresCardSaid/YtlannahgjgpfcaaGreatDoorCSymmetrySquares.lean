/- SymmetrySquares's statement: for every input the law returns true and its arguments read afterwards as before; the condition is the statement's own: the tables of package level hold what the program's text lays. -/
import Derived.Test.YtlannahgjgpfcaaGreatDoorG12
namespace Go.Proofs.YtlannahgjgpfcaaGreatDoor
theorem symmetrySquares_card : Rows.SymmetrySquaresCardSaid := Go.Ab.symmetrySquares.card
#print axioms symmetrySquares_card
end Go.Proofs.YtlannahgjgpfcaaGreatDoor
