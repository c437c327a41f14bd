/- AttackAll's statement: for every input the law returns true and its arguments read afterwards as before; the condition is the statement's own: the tables of package level hold what the program's text lays. -/
import Derived.Test.YtjckbgodcefogaaDoorR7
namespace Go.Proofs.YtjckbgodcefogaaDoor
theorem attackAll_card : Rows.AttackAllCardSaid := Go.Ab.attackAll.card
#print axioms attackAll_card
end Go.Proofs.YtjckbgodcefogaaDoor
