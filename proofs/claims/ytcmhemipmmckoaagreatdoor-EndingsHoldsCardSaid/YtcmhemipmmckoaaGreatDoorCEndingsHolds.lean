/- EndingsHolds's statement: for every input the law returns true and its arguments read afterwards as before; the condition is the statement's own: the tables of package level hold what the program's text lays. -/
import Derived.Test.YtcmhemipmmckoaaGreatDoorG17
namespace Go.Proofs.YtcmhemipmmckoaaGreatDoor
theorem endingsHolds_card : Rows.EndingsHoldsCardSaid := Go.Ab.endingsHolds.card
#print axioms endingsHolds_card
end Go.Proofs.YtcmhemipmmckoaaGreatDoor
