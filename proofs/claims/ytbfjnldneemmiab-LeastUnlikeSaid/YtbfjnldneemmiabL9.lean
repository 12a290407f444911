/-
  Of each state the least one that is alike, as the document finds it; where states go.
-/
import Derived.Test.YtbfjnldneemmiabL8
import Derived.Test.YtbfjnldneemmiabL5
namespace Go.Proofs.Ytbfjnldneemmiab
set_option linter.all false
open Go.Proofs.Ytbfjnldneemmiab.E

attribute [local irreducible] EVX EVO EVL EV1 NEV
attribute [local irreducible] own osl exA rdA rdL
set_option maxRecDepth 10000
set_option maxHeartbeats 4000000

theorem alM_len (m : Mach) : (alM m).length = m.Next.length := by unfold alM; rw [List.length_map, List.length_range]
theorem alM_get (m : Mach) {s : Nat} (h : s < m.Next.length) : (alM m)[s]? = some (al m (s : Nat)) := by unfold alM; rw [List.getElem?_map, List.getElem?_range h]; rfl

end Go.Proofs.Ytbfjnldneemmiab
