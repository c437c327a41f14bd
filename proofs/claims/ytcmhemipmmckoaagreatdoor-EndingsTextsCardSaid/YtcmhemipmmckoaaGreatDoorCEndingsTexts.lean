/- EndingsTexts's statement: for every input the law returns true and its arguments read afterwards as before; the condition is the statement's own: the tables of package level hold what the program's text lays. -/
import Derived.Test.YtcmhemipmmckoaaGreatDoorG12
namespace Go.Proofs.YtcmhemipmmckoaaGreatDoor
theorem endingsTexts_card : Rows.EndingsTextsCardSaid := Go.Ab.endingsTexts.card
#print axioms endingsTexts_card
end Go.Proofs.YtcmhemipmmckoaaGreatDoor
