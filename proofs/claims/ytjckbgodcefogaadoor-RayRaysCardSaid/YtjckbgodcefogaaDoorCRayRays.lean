/- RayRays's statement: for every input the law returns true and its arguments read afterwards as before; the condition is the statement's own: the tables of package level hold what the program's text lays. -/
import Derived.Test.YtjckbgodcefogaaDoorR1
namespace Go.Proofs.YtjckbgodcefogaaDoor
theorem rayRays_card : Rows.RayRaysCardSaid := Go.Ab.rayRays.card
#print axioms rayRays_card
end Go.Proofs.YtjckbgodcefogaaDoor
