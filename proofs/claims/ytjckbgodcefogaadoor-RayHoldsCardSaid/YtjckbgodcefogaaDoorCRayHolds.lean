/- RayHolds's statement: for every input the law returns true and its arguments read afterwards as before; the condition is the statement's own: the tables of package level hold what the program's text lays. -/
import Derived.Test.YtjckbgodcefogaaDoorR5
namespace Go.Proofs.YtjckbgodcefogaaDoor
theorem rayHolds_card : Rows.RayHoldsCardSaid := Go.Ab.rayHolds.card
#print axioms rayHolds_card
end Go.Proofs.YtjckbgodcefogaaDoor
