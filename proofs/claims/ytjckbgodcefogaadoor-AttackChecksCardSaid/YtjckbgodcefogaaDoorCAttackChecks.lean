/- AttackChecks's statement: for every input the law returns true and its arguments read afterwards as before; the condition is the statement's own: the tables of package level hold what the program's text lays. -/
import Derived.Test.YtjckbgodcefogaaDoorR8
namespace Go.Proofs.YtjckbgodcefogaaDoor
theorem attackChecks_card : Rows.AttackChecksCardSaid := Go.Ab.attackChecks.card
#print axioms attackChecks_card
end Go.Proofs.YtjckbgodcefogaaDoor
