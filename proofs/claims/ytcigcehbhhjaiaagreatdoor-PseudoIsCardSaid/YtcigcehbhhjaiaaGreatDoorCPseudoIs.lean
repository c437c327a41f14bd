/- PseudoIs's statement: for every input the law returns true and its arguments read afterwards as before; the condition is the statement's own: the tables of package level hold what the program's text lays. -/
import Derived.Test.YtcigcehbhhjaiaaGreatDoorG15
namespace Go.Proofs.YtcigcehbhhjaiaaGreatDoor
theorem pseudoIs_card : Rows.PseudoIsCardSaid := Go.Ab.pseudoIs.card
#print axioms pseudoIs_card
end Go.Proofs.YtcigcehbhhjaiaaGreatDoor
