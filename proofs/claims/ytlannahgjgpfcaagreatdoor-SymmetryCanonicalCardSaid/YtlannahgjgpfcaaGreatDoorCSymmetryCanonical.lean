/- SymmetryCanonical's statement: for every input the law returns true and its arguments read afterwards as before; the condition is the statement's own: the tables of package level hold what the program's text lays. -/
import Derived.Test.YtlannahgjgpfcaaGreatDoorG13
namespace Go.Proofs.YtlannahgjgpfcaaGreatDoor
theorem symmetryCanonical_card : Rows.SymmetryCanonicalCardSaid := Go.Ab.symmetryCanonical.card
#print axioms symmetryCanonical_card
end Go.Proofs.YtlannahgjgpfcaaGreatDoor
