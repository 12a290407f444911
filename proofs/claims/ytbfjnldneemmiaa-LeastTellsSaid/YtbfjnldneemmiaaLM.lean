/-
  What the model reads as bytes is so.
-/
import Derived.Test.YtbfjnldneemmiaaOp
import Derived.Test.YtbfjnldneemmiaaE21
namespace Go.Proofs.Ytbfjnldneemmiaa
set_option linter.all false
open Go.Proofs.Ytbfjnldneemmiaa.E

theorem op5 : Opn Try.prog 5 kbyte := op_byte Try.underlying5
theorem op77 : Opn Try.prog 77 (kslice 1 kbyte) := op_slice Try.underlying77 (by kernel_rfl) (by kernel_rfl) (by decide) op5

end Go.Proofs.Ytbfjnldneemmiaa
