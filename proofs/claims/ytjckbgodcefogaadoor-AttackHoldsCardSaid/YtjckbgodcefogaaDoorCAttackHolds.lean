/- AttackHolds's statement: for every input the law returns true and its arguments read afterwards as before; the condition is the statement's own: the tables of package level hold what the program's text lays. -/
import Derived.Test.YtjckbgodcefogaaDoorR10
namespace Go.Proofs.YtjckbgodcefogaaDoor
theorem attackHolds_card : Rows.AttackHoldsCardSaid := Go.Ab.attackHolds.card
#print axioms attackHolds_card
end Go.Proofs.YtjckbgodcefogaaDoor
