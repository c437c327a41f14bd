/- AttackPins's statement: for every input the law returns true and its arguments read afterwards as before; the condition is the statement's own: the tables of package level hold what the program's text lays. -/
import Derived.Test.YtjckbgodcefogaaDoorR9
namespace Go.Proofs.YtjckbgodcefogaaDoor
theorem attackPins_card : Rows.AttackPinsCardSaid := Go.Ab.attackPins.card
#print axioms attackPins_card
end Go.Proofs.YtjckbgodcefogaaDoor
