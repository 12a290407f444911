/-
  The table of states that some text tells apart, as the document makes it.
-/
import Derived.Test.YtbfjnldneemmiabP4
import Derived.Test.YtbfjnldneemmiabL1
import Derived.Test.YtbfjnldneemmiabE20
namespace Go.Proofs.Ytbfjnldneemmiab
set_option linter.all false
open Go.Proofs.Ytbfjnldneemmiab.E


/-- The rows' heads; the rows. -/
def hdr (N : Nat) (bcs : List (Nat × Nat)) : List Value := bcs.map fun bc => Value.slice (some ⟨bc.1, 0, none⟩) N bc.2
def tbL (N : Nat) (bcs : List (Nat × Nat)) (rows : List (List Bool)) : List Asn := List.zipWith (fun bc (r : List Bool) => osl 4 1 (.slice (some ⟨bc.1, 0, none⟩) N bc.2) N (r.map Value.bool)) bcs rows

theorem hdr_get {N : Nat} {bcs : List (Nat × Nat)} {i : Nat} (h : i < bcs.length) : (hdr N bcs)[i]? = some (.slice (some ⟨bcs[i].1, 0, none⟩) N bcs[i].2) := by
  unfold hdr; rw [List.getElem?_map, List.getElem?_eq_getElem h]; rfl
theorem hdr_snoc (N : Nat) (bcs : List (Nat × Nat)) (bc : Nat × Nat) : hdr N (bcs ++ [bc]) = hdr N bcs ++ [.slice (some ⟨bc.1, 0, none⟩) N bc.2] := by
  unfold hdr; rw [List.map_append]; rfl
theorem tbL_get {N : Nat} {bcs : List (Nat × Nat)} {rows : List (List Bool)} {i : Nat} (h : i < bcs.length) (h2 : i < rows.length) : (tbL N bcs rows)[i]? = some (osl 4 1 (.slice (some ⟨bcs[i].1, 0, none⟩) N bcs[i].2) N (rows[i].map Value.bool)) := by
  unfold tbL; rw [List.getElem?_zipWith, List.getElem?_eq_getElem h, List.getElem?_eq_getElem h2]
theorem tbL_set {N : Nat} {bcs : List (Nat × Nat)} {rows : List (List Bool)} {i : Nat} (h : i < bcs.length) (r : List Bool) : (tbL N bcs rows).set i (osl 4 1 (.slice (some ⟨bcs[i].1, 0, none⟩) N bcs[i].2) N (r.map Value.bool)) = tbL N bcs (rows.set i r) := by
  unfold tbL
  exact zipWith_set _ bcs rows i bcs[i] r (List.getElem?_eq_getElem h)
theorem tbL_snoc {N : Nat} {bcs : List (Nat × Nat)} {rows : List (List Bool)} (h : bcs.length = rows.length) (bc : Nat × Nat) (r : List Bool) : tbL N (bcs ++ [bc]) (rows ++ [r]) = tbL N bcs rows ++ [osl 4 1 (.slice (some ⟨bc.1, 0, none⟩) N bc.2) N (r.map Value.bool)] := by
  unfold tbL; rw [List.zipWith_append h]; rfl

theorem fill_v {l : List Value} {n i : Nat} {v z : Value} (hl : l.length = i) (h : i < n) : setMany (l ++ List.replicate (n - i) z) (0 + i * 1) [v] = (l ++ [v]) ++ List.replicate (n - (i + 1)) z := by
  have e : n - i = (n - (i + 1)) + 1 := by omega
  subst hl
  simp only [setMany]
  rw [Nat.zero_add, Nat.mul_one, e, List.replicate_succ, List.set_append_right _ _ (Nat.le_refl _), Nat.sub_self, List.set_cons_zero, List.append_assoc]; rfl

theorem row0_get (m : Mach) (i : Nat) {j : Nat} (h : j < m.Next.length + 1) : (row0 m i)[j]? = some (!decide (rl m ((i : Int) - 1) = rl m ((j : Int) - 1))) := by
  unfold row0; rw [List.getElem?_map, List.getElem?_range h]; rfl
theorem row0_len (m : Mach) (i : Nat) : (row0 m i).length = m.Next.length + 1 := by unfold row0; rw [List.length_map, List.length_range]
theorem tab0_len (m : Mach) : (tab0 m).length = m.Next.length + 1 := by unfold tab0; rw [List.length_map, List.length_range]
theorem tab0_at (m : Mach) {i : Nat} (h : i < m.Next.length + 1) : (tab0 m)[i]? = some (row0 m i) := by unfold tab0; rw [List.getElem?_map, List.getElem?_range h]; rfl

attribute [local irreducible] EVX EVO EVL EV1 NEV
attribute [local irreducible] own osl exA rdA rdL
set_option maxRecDepth 10000
set_option maxHeartbeats 4000000

end Go.Proofs.Ytbfjnldneemmiab
