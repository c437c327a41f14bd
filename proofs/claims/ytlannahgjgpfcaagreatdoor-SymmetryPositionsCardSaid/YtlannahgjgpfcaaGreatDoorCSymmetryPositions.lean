/- SymmetryPositions's statement: for every input the law returns true and its arguments read afterwards as before; the condition is the statement's own: the tables of package level hold what the program's text lays. -/
import Derived.Test.YtlannahgjgpfcaaGreatDoorG14
namespace Go.Proofs.YtlannahgjgpfcaaGreatDoor
theorem symmetryPositions_card : Rows.SymmetryPositionsCardSaid := Go.Ab.symmetryPositions.card
#print axioms symmetryPositions_card
end Go.Proofs.YtlannahgjgpfcaaGreatDoor
