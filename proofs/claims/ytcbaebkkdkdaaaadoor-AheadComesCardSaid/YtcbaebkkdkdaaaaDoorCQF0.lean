/-
  Small readings of lists of numbers.
-/
import Derived.Test.YtcbaebkkdkdaaaaDoorAhBase4

namespace Go.Proofs.YtcbaebkkdkdaaaaDoor
set_option linter.all false
open Go.Proofs.YtcbaebkkdkdaaaaDoor.E

abbrev encM (M : List Nat) : List Value := M.map fun (m : Nat) => Value.int .i64 m
theorem loadM {M : List Nat} {i o : Nat} (h : i < M.length) (ho : o = i) {s b : Nat} {z : List Value} : loadL ⟨.int .i64, s, b, z⟩ (encM M) o = some (.int .i64 M[i]) := by
  subst ho; exact load_cell rfl (by rw [List.getElem?_map, List.getElem?_eq_getElem h]; rfl)

end Go.Proofs.YtcbaebkkdkdaaaaDoor
