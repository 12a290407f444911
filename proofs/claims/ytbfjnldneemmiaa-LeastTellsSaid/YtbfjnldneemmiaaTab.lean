/-
  The types of this seat's program, as the engine reads them; each row is checked against the program.
-/
import Derived.Test.YtbfjnldneemmiaaE11
import Derived.Test.YtbfjnldneemmiaaProg
import Derived.KernelRfl
namespace Go.Proofs.Ytbfjnldneemmiaa
open Go.Proofs.Ytbfjnldneemmiaa.E
def Try.tab : Tab := [
  (3, ⟨(.int .i64), 1, 8, [(.int .i64 0)]⟩),
  (24, ⟨(.slice 3), 1, 24, [(.slice none 0 0)]⟩),
  (26, ⟨(.struct [(0, 256), (256, 1), (257, 1)]), 258, 2096, List.replicate 256 (.int .i64 0) ++ [(.slice none 0 0), (.slice none 0 0)]⟩),
  (44, ⟨(.struct [(0, 1), (1, 1), (2, 1), (3, 1), (4, 1)]), 5, 120, [(.slice none 0 0), (.slice none 0 0), (.slice none 0 0), (.slice none 0 0), (.slice none 0 0)]⟩),
  (23, ⟨(.slice 24), 1, 24, [(.slice none 0 0)]⟩),
  (49, ⟨(.slice 4), 1, 24, [(.slice none 0 0)]⟩),
  (42, ⟨(.slice 67), 1, 24, [(.slice none 0 0)]⟩),
  (39, ⟨(.slice 9), 1, 24, [(.slice none 0 0)]⟩),
  (67, ⟨(.struct [(0, 1), (1, 1), (2, 2)]), 4, 48, [(.int .i64 0), (.slice none 0 0), (.int .i64 0), (.int .i64 0)]⟩),
  (4, ⟨.bool, 1, 1, [(.bool false)]⟩),
  (28, ⟨(.int .i64), 1, 8, [(.int .i64 0)]⟩),
  (52, ⟨(.slice 49), 1, 24, [(.slice none 0 0)]⟩),
  (22, ⟨(.arr 256 3), 256, 2048, List.replicate 256 (.int .i64 0)⟩),
  (40, ⟨(.slice 65), 1, 24, [(.slice none 0 0)]⟩),
  (65, ⟨(.struct [(0, 1), (1, 1)]), 2, 16, [(.int .i64 0), (.int .i64 0)]⟩),
  (91, ⟨(.struct [(0, 258), (258, 1), (259, 1), (260, 1), (261, 1)]), 262, 2160, List.replicate 256 (.int .i64 0) ++ [(.slice none 0 0), (.slice none 0 0), (.slice none 0 0), (.map none), (.map none), (.slice none 0 0)]⟩),
  (61, ⟨(.struct [(0, 1), (1, 1)]), 2, 48, [(.slice none 0 0), (.slice none 0 0)]⟩),
  (104, ⟨(.struct [(0, 5), (5, 1), (6, 1), (7, 1)]), 8, 192, [(.slice none 0 0), (.slice none 0 0), (.slice none 0 0), (.slice none 0 0), (.slice none 0 0), (.slice none 0 0), (.slice none 0 0), (.slice none 0 0)]⟩),
  (89, ⟨(.map 3 3), 1, 8, [(.map none)]⟩),
  (87, ⟨(.slice 3), 1, 24, [(.slice none 0 0)]⟩),
  (36, ⟨(.arr 42 35), 1764, 1764, List.replicate 1764 (.bool false)⟩),
  (74, ⟨(.slice 44), 1, 24, [(.slice none 0 0)]⟩),
  (35, ⟨(.arr 42 4), 42, 42, List.replicate 42 (.bool false)⟩),
  (77, ⟨(.slice 5), 1, 24, [(.slice none 0 0)]⟩),
  (93, ⟨(.slice 22), 1, 24, [(.slice none 0 0)]⟩),
  (9, ⟨.str, 1, 16, [(.string ⟨#[]⟩)]⟩),
  (126, ⟨(.map 127 3), 1, 8, [(.map none)]⟩),
  (127, ⟨(.arr 2 3), 2, 16, [(.int .i64 0), (.int .i64 0)]⟩),
  (107, ⟨(.ptr 104), 1, 8, [(.pointer none)]⟩),
  (41, ⟨(.slice 146), 1, 24, [(.slice none 0 0)]⟩),
  (5, ⟨(.int .u8), 1, 1, [(.int .u8 0)]⟩),
  (146, ⟨(.struct [(0, 1), (1, 1)]), 2, 24, [(.int .i64 0), (.string ⟨#[]⟩)]⟩)]
theorem Try.tabOk : TabOk Try.prog Try.tab := tabOk_of (by kernel_rfl)
theorem Try.mixed : Try.prog.follows .mixedOrders = true := by kernel_rfl
end Go.Proofs.Ytbfjnldneemmiaa
