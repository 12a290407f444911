/-
  What the model reads as a grammar, or as a row of numbers, is one.
-/
import Derived.Test.YtbfjnldneemmiaaData
import Derived.Test.YtbfjnldneemmiaaE12
import Derived.Test.YtbfjnldneemmiaaRows
namespace Go.Proofs.Ytbfjnldneemmiaa
set_option linter.all false
open Go.Proofs.Ytbfjnldneemmiaa.E

theorem op3 : Opn Try.prog 3 kint := op_int Try.underlying3
theorem op9 : Opn Try.prog 9 kstr := op_str Try.underlying9
theorem op24 : Opn Try.prog 24 (kslice 8 kint) := op_slice Try.underlying24 (by kernel_rfl) (by kernel_rfl) (by decide) op3
theorem op39 : Opn Try.prog 39 (kslice 16 kstr) := op_slice Try.underlying39 (by kernel_rfl) (by kernel_rfl) (by decide) op9
theorem op65 : Opn Try.prog 65 kLev := op_iso (fun y => ⟨⟨y.1, y.2⟩, rfl⟩) (op_struct Try.underlying65 (by kernel_rfl) (ops_cons (by kernel_rfl) op3 rfl (ops_one (by kernel_rfl) op3)))
theorem op40 : Opn Try.prog 40 (kslice 16 kLev) := op_slice Try.underlying40 (by kernel_rfl) (by kernel_rfl) (by decide) op65
theorem op146 : Opn Try.prog 146 kPt := op_iso (fun y => ⟨⟨y.1, y.2⟩, rfl⟩) (op_struct Try.underlying146 (by kernel_rfl) (ops_cons (by kernel_rfl) op3 rfl (ops_one (by kernel_rfl) op9)))
theorem op41 : Opn Try.prog 41 (kslice 24 kPt) := op_slice Try.underlying41 (by kernel_rfl) (by kernel_rfl) (by decide) op146
theorem op67 : Opn Try.prog 67 kPrd := op_iso (fun y => ⟨⟨y.1, y.2.1, y.2.2⟩, rfl⟩) (op_struct Try.underlying67 (by kernel_rfl) (ops_cons (by kernel_rfl) op3 rfl (ops_cons (by kernel_rfl) op24 rfl (ops_one (by kernel_rfl) op65))))
theorem op42 : Opn Try.prog 42 (kslice 48 kPrd) := op_slice Try.underlying42 (by kernel_rfl) (by kernel_rfl) (by decide) op67
theorem op44 : Opn Try.prog 44 kGram := op_iso (fun y => ⟨⟨y.1, y.2.1, y.2.2.1, y.2.2.2.1, y.2.2.2.2⟩, rfl⟩) (op_struct Try.underlying44 (by kernel_rfl)
  (ops_cons (by kernel_rfl) op39 rfl (ops_cons (by kernel_rfl) op40 rfl (ops_cons (by kernel_rfl) op41 rfl (ops_cons (by kernel_rfl) op39 rfl (ops_one (by kernel_rfl) op42))))))

theorem Try.laidOut : laidOutB Try.prog = true := by kernel_rfl
theorem Try.own : ownKnob Try.prog.godebug = none := by kernel_rfl

end Go.Proofs.Ytbfjnldneemmiaa
