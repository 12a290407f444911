/-
  What the model reads as a grammar, or as a row of numbers, is one.
-/
import Derived.Test.YtbfjnldneemmiabData
import Derived.Test.YtbfjnldneemmiabE12
import Derived.Test.YtbfjnldneemmiabRows
namespace Go.Proofs.Ytbfjnldneemmiab
set_option linter.all false
open Go.Proofs.Ytbfjnldneemmiab.E

theorem op3 : Opn Try.prog 3 kint := op_int Try.underlying3
theorem op9 : Opn Try.prog 9 kstr := op_str Try.underlying9
theorem op24 : Opn Try.prog 24 (kslice 8 kint) := op_slice Try.underlying24 (by kernel_rfl) (by kernel_rfl) (by decide) op3
theorem Try.laidOut : laidOutB Try.prog = true := by kernel_rfl
theorem Try.own : ownKnob Try.prog.godebug = none := by kernel_rfl

end Go.Proofs.Ytbfjnldneemmiab
