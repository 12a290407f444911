/-
  The least machine, as the document makes it.
-/
import Derived.Test.YtbfjnldneemmiabL9
import Derived.Test.YtbfjnldneemmiabL7
namespace Go.Proofs.Ytbfjnldneemmiab
set_option linter.all false
open Go.Proofs.Ytbfjnldneemmiab.E

attribute [local irreducible] EVX EVO EVL EV1 NEV
attribute [local irreducible] own osl exA rdA rdL
set_option maxRecDepth 10000
set_option maxHeartbeats 4000000

theorem C256.set_set (c : C256) (j : Nat) (v w : Int) : (c.set j v).set j w = c.set j w := C256.ext (by simp [C256.set])

end Go.Proofs.Ytbfjnldneemmiab
