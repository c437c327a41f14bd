/- RayLines's statement: for every input the law returns true and its arguments read afterwards as before; the condition is the statement's own: the tables of package level hold what the program's text lays. -/
import Derived.Test.YtjckbgodcefogaaDoorR2
namespace Go.Proofs.YtjckbgodcefogaaDoor
theorem rayLines_card : Rows.RayLinesCardSaid := Go.Ab.rayLines.card
#print axioms rayLines_card
end Go.Proofs.YtjckbgodcefogaaDoor
