/- EndingsFlights's statement: for every input the law returns true and its arguments read afterwards as before; the condition is the statement's own: the tables of package level hold what the program's text lays. -/
import Derived.Test.YtcmhemipmmckoaaGreatDoorG18
namespace Go.Proofs.YtcmhemipmmckoaaGreatDoor
theorem endingsFlights_card : Rows.EndingsFlightsCardSaid := Go.Ab.endingsFlights.card
#print axioms endingsFlights_card
end Go.Proofs.YtcmhemipmmckoaaGreatDoor
