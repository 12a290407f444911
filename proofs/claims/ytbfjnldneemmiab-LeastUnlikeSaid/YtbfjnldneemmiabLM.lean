/-
  What the model reads as bytes is so.
-/
import Derived.Test.YtbfjnldneemmiabOp
import Derived.Test.YtbfjnldneemmiabE21
namespace Go.Proofs.Ytbfjnldneemmiab
set_option linter.all false
open Go.Proofs.Ytbfjnldneemmiab.E

theorem op5 : Opn Try.prog 5 kbyte := op_byte Try.underlying5
theorem op77 : Opn Try.prog 27 (kslice 1 kbyte) := op_slice Try.underlying27 (by kernel_rfl) (by kernel_rfl) (by decide) op5

end Go.Proofs.Ytbfjnldneemmiab
