/- AttackAttackers's statement: for every input the law returns true and its arguments read afterwards as before; the condition is the statement's own: the tables of package level hold what the program's text lays. -/
import Derived.Test.YtjckbgodcefogaaDoorR6
namespace Go.Proofs.YtjckbgodcefogaaDoor
theorem attackAttackers_card : Rows.AttackAttackersCardSaid := Go.Ab.attackAttackers.card
#print axioms attackAttackers_card
end Go.Proofs.YtjckbgodcefogaaDoor
