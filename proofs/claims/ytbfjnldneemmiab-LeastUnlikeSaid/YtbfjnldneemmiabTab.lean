/-
  The types of this seat's program, as the engine reads them; each row is checked against the program.
-/
import Derived.Test.YtbfjnldneemmiabE11
import Derived.Test.YtbfjnldneemmiabProg
import Derived.KernelRfl
namespace Go.Proofs.Ytbfjnldneemmiab
open Go.Proofs.Ytbfjnldneemmiab.E
def Try.tab : Tab := [
  (26, ⟨(.struct [(0, 256), (256, 1), (257, 1)]), 258, 2096, List.replicate 256 (.int .i64 0) ++ [(.slice none 0 0), (.slice none 0 0)]⟩),
  (3, ⟨(.int .i64), 1, 8, [(.int .i64 0)]⟩),
  (24, ⟨(.slice 3), 1, 24, [(.slice none 0 0)]⟩),
  (23, ⟨(.slice 24), 1, 24, [(.slice none 0 0)]⟩),
  (49, ⟨(.struct [(0, 258), (258, 1), (259, 1), (260, 1), (261, 1)]), 262, 2160, List.replicate 256 (.int .i64 0) ++ [(.slice none 0 0), (.slice none 0 0), (.slice none 0 0), (.map none), (.map none), (.slice none 0 0)]⟩),
  (22, ⟨(.arr 256 3), 256, 2048, List.replicate 256 (.int .i64 0)⟩),
  (47, ⟨(.map 3 3), 1, 8, [(.map none)]⟩),
  (45, ⟨(.slice 3), 1, 24, [(.slice none 0 0)]⟩),
  (29, ⟨(.int .i64), 1, 8, [(.int .i64 0)]⟩),
  (51, ⟨(.slice 22), 1, 24, [(.slice none 0 0)]⟩),
  (58, ⟨(.map 59 3), 1, 8, [(.map none)]⟩),
  (59, ⟨(.arr 2 3), 2, 16, [(.int .i64 0), (.int .i64 0)]⟩),
  (27, ⟨(.slice 5), 1, 24, [(.slice none 0 0)]⟩),
  (4, ⟨.bool, 1, 1, [(.bool false)]⟩),
  (5, ⟨(.int .u8), 1, 1, [(.int .u8 0)]⟩)]
theorem Try.tabOk : TabOk Try.prog Try.tab := tabOk_of (by kernel_rfl)
theorem Try.mixed : Try.prog.follows .mixedOrders = true := by kernel_rfl
end Go.Proofs.Ytbfjnldneemmiab
