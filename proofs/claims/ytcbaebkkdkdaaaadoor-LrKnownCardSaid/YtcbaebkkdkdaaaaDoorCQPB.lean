/-
  Plain: the grammars of LrKnown, and what is found of them.
-/
import Derived.Test.YtcbaebkkdkdaaaaDoorLrBase5

namespace Go.Proofs.YtcbaebkkdkdaaaaDoor
set_option linter.all false
open Go.Proofs.YtcbaebkkdkdaaaaDoor.E

def sumsG : Gram := ⟨List.replicate 6 (⟨#[]⟩ : ByteArray), List.replicate 6 ⟨0, 0⟩, [], List.replicate 4 (⟨#[]⟩ : ByteArray), [⟨0, [7], ⟨0, 0⟩⟩, ⟨1, [7, 2, 8], ⟨0, 0⟩⟩, ⟨1, [8], ⟨0, 0⟩⟩, ⟨2, [8, 3, 9], ⟨0, 0⟩⟩, ⟨2, [9], ⟨0, 0⟩⟩, ⟨3, [4, 7, 5], ⟨0, 0⟩⟩, ⟨3, [1], ⟨0, 0⟩⟩]⟩
def noneG : Gram := ⟨[], [], [], [], []⟩

set_option maxRecDepth 100000
theorem sums_check : checkE sumsG = 0 := by decide +kernel
theorem sums_lrE : lrE sumsG = 0 := by decide +kernel
theorem sums_len : (lrKs sumsG).length = 12 := by decide +kernel
theorem none_lrE : lrE noneG = 2 := by decide +kernel
theorem sums_c1 : closeE sumsG [⟨7, 0⟩] = 9 := by decide +kernel
theorem sums_c2 : closeE sumsG [⟨-1, 0⟩] = 9 := by decide +kernel
theorem sums_c3 : closeE sumsG [⟨1, 4⟩] = 9 := by decide +kernel
theorem sums_c4 : closeE sumsG [⟨1, -1⟩] = 9 := by decide +kernel
theorem sums_c5 : closeE sumsG (List.replicate 2001 ⟨0, 0⟩) = 5 := by decide +kernel
theorem sums_c6 : closeE sumsG (List.replicate 2000 ⟨0, 0⟩) = 0 := by decide +kernel
theorem sums_c7 : closeE sumsG [] = 0 := by decide +kernel
theorem sums_l6 : (closeL sumsG (List.replicate 2000 ⟨0, 0⟩)).length = 7 := by decide +kernel
theorem sums_l7 : closeL sumsG [] = [] := by decide +kernel

end Go.Proofs.YtcbaebkkdkdaaaaDoor
