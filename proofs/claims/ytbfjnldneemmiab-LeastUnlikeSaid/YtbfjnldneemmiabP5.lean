/-
  Plain: the least machine's classes.
-/
import Derived.Test.YtbfjnldneemmiabP3
namespace Go.Proofs.Ytbfjnldneemmiab
set_option linter.all false
open Go.Proofs.Ytbfjnldneemmiab.E

/-- The class of a byte. -/
def fcl (m : Mach) (fin : List Int) (c : Nat) : Nat := fk m fin c (Lc m fin c)

theorem Lc_len_succ (m : Mach) (fin : List Int) (c : Nat) : (Lc m fin (c + 1)).length = if fcl m fin c = (Lc m fin c).length then (Lc m fin c).length + 1 else (Lc m fin c).length := by
  rw [Lc_succ]
  unfold lcS fcl
  split
  · rw [List.length_append, List.length_singleton]
  · rfl

theorem Lc_inv (m : Mach) (fin : List Int) : ∀ c, (∀ c', c' < c → fcl m fin c' < (Lc m fin c).length) ∧ (∀ k, k < (Lc m fin c).length → ∃ c', c' < c ∧ fcl m fin c' = k)
  | 0 => ⟨fun c' h => absurd h (Nat.not_lt_zero _), fun k h => by simp [Lc] at h⟩
  | c + 1 => by
    obtain ⟨h1, h2⟩ := Lc_inv m fin c
    have hle : fcl m fin c ≤ (Lc m fin c).length := fk_le m fin c _
    rw [Lc_len_succ]
    by_cases e : fcl m fin c = (Lc m fin c).length
    · rw [if_pos e]
      refine ⟨fun c' hc => ?_, fun k hk => ?_⟩
      · by_cases e2 : c' = c
        · subst e2; omega
        · have := h1 c' (by omega); omega
      · by_cases e2 : k = (Lc m fin c).length
        · exact ⟨c, by omega, by omega⟩
        · obtain ⟨c', a, b⟩ := h2 k (by omega)
          exact ⟨c', by omega, b⟩
    · rw [if_neg e]
      refine ⟨fun c' hc => ?_, fun k hk => ?_⟩
      · by_cases e2 : c' = c
        · subst e2; omega
        · exact h1 c' (by omega)
      · obtain ⟨c', a, b⟩ := h2 k hk
        exact ⟨c', by omega, b⟩

theorem clsL_get (m : Mach) (fin : List Int) {c : Nat} (h : c < 256) : (clsL m fin).get c = (fcl m fin c : Nat) := by
  rw [C256.get_eq _ (by rw [C256.h]; exact h)]
  unfold clsL
  rw [List.getElem_map, List.getElem_range]; rfl

theorem cls_len {a b : Mach} {fa fb : List Int} (h : (clsL a fa).l = (clsL b fb).l) : (Lc a fa 256).length ≤ (Lc b fb 256).length := by
  refine Nat.le_of_not_lt (fun hlt => ?_)
  obtain ⟨c, hc, hk⟩ := (Lc_inv a fa 256).2 _ hlt
  have h1 := (Lc_inv b fb 256).1 c hc
  have e : clsL a fa = clsL b fb := C256.ext h
  have h2 := clsL_get a fa hc
  rw [e, clsL_get b fb hc] at h2
  omega

theorem least_rows {m : Mach} {r : List Int} (h : r ∈ (leastM m).Next) : r.length = (Lc m (finM m) 256).length := by
  unfold leastM at h
  obtain ⟨s, _, rfl⟩ := List.mem_map.1 h
  rw [List.length_map]

theorem least_rule (m : Mach) : (leastM m).Rule.length = (leastM m).Next.length := by
  unfold leastM; rw [List.length_map, List.length_map]

theorem least_len (m : Mach) : (leastM m).Next.length = (finM m).length := by
  unfold leastM; rw [List.length_map]

theorem least_same {a b : Mach} (h : (leastM a).Class.l = (leastM b).Class.l) {r r2 : List Int} (h1 : r ∈ (leastM a).Next) (h2 : r2 ∈ (leastM b).Next) : r.length = r2.length := by
  rw [least_rows h1, least_rows h2]
  have h3 : (Lc a (finM a) 256).length ≤ (Lc b (finM b) 256).length := cls_len (a := a) (b := b) h
  have h4 : (Lc b (finM b) 256).length ≤ (Lc a (finM a) 256).length := cls_len (a := b) (b := a) h.symm
  omega

end Go.Proofs.Ytbfjnldneemmiab
