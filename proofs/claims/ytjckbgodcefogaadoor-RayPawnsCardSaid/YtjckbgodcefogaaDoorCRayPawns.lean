/- RayPawns's statement: for every input the law returns true and its arguments read afterwards as before; the condition is the statement's own: the tables of package level hold what the program's text lays. -/
import Derived.Test.YtjckbgodcefogaaDoorR4
namespace Go.Proofs.YtjckbgodcefogaaDoor
theorem rayPawns_card : Rows.RayPawnsCardSaid := Go.Ab.rayPawns.card
#print axioms rayPawns_card
end Go.Proofs.YtjckbgodcefogaaDoor
