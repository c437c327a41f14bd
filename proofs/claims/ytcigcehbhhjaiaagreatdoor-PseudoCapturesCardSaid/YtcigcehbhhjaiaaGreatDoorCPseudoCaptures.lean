/- PseudoCaptures's statement: for every input the law returns true and its arguments read afterwards as before; the condition is the statement's own: the tables of package level hold what the program's text lays. -/
import Derived.Test.YtcigcehbhhjaiaaGreatDoorG16
namespace Go.Proofs.YtcigcehbhhjaiaaGreatDoor
theorem pseudoCaptures_card : Rows.PseudoCapturesCardSaid := Go.Ab.pseudoCaptures.card
#print axioms pseudoCaptures_card
end Go.Proofs.YtcigcehbhhjaiaaGreatDoor
