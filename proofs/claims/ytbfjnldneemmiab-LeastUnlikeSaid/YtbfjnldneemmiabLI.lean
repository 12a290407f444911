/-
  Small aids: a copy of numbers.
-/
import Derived.Test.YtbfjnldneemmiabTab
import Derived.Test.YtbfjnldneemmiabE13
namespace Go.Proofs.Ytbfjnldneemmiab
set_option linter.all false
open Go.Proofs.Ytbfjnldneemmiab.E
attribute [local irreducible] EVX EVO EVL EV1 NEV
set_option maxRecDepth 10000
set_option maxHeartbeats 1000000

end Go.Proofs.Ytbfjnldneemmiab
