/-
  Two machines, told the same by their least ones: by the document; by the program.
-/
import Derived.Test.YtbfjnldneemmiabL12
namespace Go.Proofs.Ytbfjnldneemmiab
set_option linter.all false
open Go.Proofs.Ytbfjnldneemmiab.E

attribute [local irreducible] EVX EVO EVL EV1 NEV
attribute [local irreducible] own osl exA rdA rdL
set_option maxRecDepth 10000
set_option maxHeartbeats 4000000

def sameE (a b : Mach) : Int := if checkM a = 0 then checkM b else checkM a
def sameV (a b : Mach) : Bool := decide (sameE a b = 0) && (ofM a).eqB (ofM b)

end Go.Proofs.Ytbfjnldneemmiab
