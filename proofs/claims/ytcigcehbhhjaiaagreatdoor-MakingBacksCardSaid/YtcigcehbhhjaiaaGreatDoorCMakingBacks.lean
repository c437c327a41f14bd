/- MakingBacks's statement: for every input the law returns true and its arguments read afterwards as before; the condition is the statement's own: the tables of package level hold what the program's text lays. -/
import Derived.Test.YtcigcehbhhjaiaaGreatDoorG13
namespace Go.Proofs.YtcigcehbhhjaiaaGreatDoor
theorem makingBacks_card : Rows.MakingBacksCardSaid := Go.Ab.makingBacks.card
#print axioms makingBacks_card
end Go.Proofs.YtcigcehbhhjaiaaGreatDoor
