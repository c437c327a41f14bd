/- SymmetryGroup's statement: for every input the law returns true and its arguments read afterwards as before; the condition is the statement's own: the tables of package level hold what the program's text lays. -/
import Derived.Test.YtlannahgjgpfcaaGreatDoorG13
namespace Go.Proofs.YtlannahgjgpfcaaGreatDoor
theorem symmetryGroup_card : Rows.SymmetryGroupCardSaid := Go.Ab.symmetryGroup.card
#print axioms symmetryGroup_card
end Go.Proofs.YtlannahgjgpfcaaGreatDoor
