/- RayReaches's statement: for every input the law returns true and its arguments read afterwards as before; the condition is the statement's own: the tables of package level hold what the program's text lays. -/
import Derived.Test.YtjckbgodcefogaaDoorR3
namespace Go.Proofs.YtjckbgodcefogaaDoor
theorem rayReaches_card : Rows.RayReachesCardSaid := Go.Ab.rayReaches.card
#print axioms rayReaches_card
end Go.Proofs.YtjckbgodcefogaaDoor
