/- EndingsOf's statement: for every input the law returns true and its arguments read afterwards as before; the condition is the statement's own: the tables of package level hold what the program's text lays. -/
import Derived.Test.YtcmhemipmmckoaaGreatDoorG16
namespace Go.Proofs.YtcmhemipmmckoaaGreatDoor
theorem endingsOf_card : Rows.EndingsOfCardSaid := Go.Ab.endingsOf.card
#print axioms endingsOf_card
end Go.Proofs.YtcmhemipmmckoaaGreatDoor
