/- PseudoHolds's statement: for every input the law returns true and its arguments read afterwards as before; the condition is the statement's own: the tables of package level hold what the program's text lays. -/
import Derived.Test.YtcigcehbhhjaiaaGreatDoorG13
namespace Go.Proofs.YtcigcehbhhjaiaaGreatDoor
theorem pseudoHolds_card : Rows.PseudoHoldsCardSaid := Go.Ab.pseudoHolds.card
#print axioms pseudoHolds_card
end Go.Proofs.YtcigcehbhhjaiaaGreatDoor
