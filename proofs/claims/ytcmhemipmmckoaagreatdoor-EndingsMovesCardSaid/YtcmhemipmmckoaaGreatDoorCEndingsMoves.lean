/- EndingsMoves's statement: for every input the law returns true and its arguments read afterwards as before; the condition is the statement's own: the tables of package level hold what the program's text lays. -/
import Derived.Test.YtcmhemipmmckoaaGreatDoorG17
namespace Go.Proofs.YtcmhemipmmckoaaGreatDoor
theorem endingsMoves_card : Rows.EndingsMovesCardSaid := Go.Ab.endingsMoves.card
#print axioms endingsMoves_card
end Go.Proofs.YtcmhemipmmckoaaGreatDoor
