/- MakingHolds's statement: for every input the law returns true and its arguments read afterwards as before; the condition is the statement's own: the tables of package level hold what the program's text lays. -/
import Derived.Test.YtcigcehbhhjaiaaGreatDoorG12
namespace Go.Proofs.YtcigcehbhhjaiaaGreatDoor
theorem makingHolds_card : Rows.MakingHoldsCardSaid := Go.Ab.makingHolds.card
#print axioms makingHolds_card
end Go.Proofs.YtcigcehbhhjaiaaGreatDoor
