/-
  Plain: how the least machine's states and classes are numbered.
-/
import Derived.Test.YtbfjnldneemmiaaP6
namespace Go.Proofs.Ytbfjnldneemmiaa
set_option linter.all false
open Go.Proofs.Ytbfjnldneemmiaa.E
attribute [local irreducible] Lc rowS2 stepR bfs findI

/-- What is found behind a state, by some bytes. -/
def addR (m : Mach) (s : Int) (D : List Int) (L : List Nat) : List Int := L.foldl (fun D b => addS D (go m s b)) D

theorem addR_pre (m : Mach) (s : Int) : ∀ (L : List Nat) (D : List Int), D <+: addR m s D L
  | [], D => List.prefix_refl _
  | b :: L, D => (addS_pre D (go m s b)).trans (addR_pre m s L (addS D (go m s b)))

theorem addR_has (m : Mach) (s : Int) : ∀ (L : List Nat) (D : List Int), ∀ b ∈ L, 0 ≤ go m s b → go m s b ∈ addR m s D L
  | a :: L, D, b, hb, h0 => by
    rcases List.mem_cons.1 hb with rfl | hb
    · exact (addR_pre m s L _).subset (addS_mem h0)
    · exact addR_has m s L _ b hb h0

theorem addS_same {D : List Int} {t : Int} (h : t < 0 ∨ t ∈ D) : addS D t = D := by
  unfold addS
  rw [if_neg (fun h2 => h.elim (fun h => by omega) (fun h => h2.2 h))]

/-- By all bytes just what by each class's least one. -/
theorem addR_Lc {m : Mach} {fin : List Int} {s : Int} (hs : s ∈ fin) (D : List Int) : ∀ c, rowS2 m s D c = addR m s D (Lc m fin c)
  | 0 => by
    rw [rowS2_zero]
    have : Lc m fin 0 = [] := List.eq_nil_of_length_eq_zero (by have := Lc_len m fin 0; omega)
    rw [this]; rfl
  | c + 1 => by
    rw [rowS2_succ, addR_Lc hs D c, Lc_succ]
    unfold lcS
    by_cases e : fk m fin c (Lc m fin c) = (Lc m fin c).length
    · rw [if_pos e]
      unfold addR
      rw [List.foldl_append]; rfl
    · rw [if_neg e]
      have hlt : fk m fin c (Lc m fin c) < (Lc m fin c).length := Nat.lt_of_le_of_ne (fk_le _ _ _ _) e
      have h2 := sameB_go (fk_get hlt) hs
      refine addS_same ?_
      by_cases h0 : go m s c < 0
      · exact .inl h0
      · refine .inr ?_
        rw [h2]
        exact addR_has m s _ D _ (List.getElem_mem hlt) (by rw [← h2]; omega)

theorem stepR_Lc {m : Mach} {fin : List Int} {s : Int} (hs : s ∈ fin) (D : List Int) : stepR m D s = addR m s D (Lc m fin 256) := by
  have := addR_Lc (m := m) hs D 256
  unfold stepR; exact this

theorem addR_take {m : Mach} {s : Int} {D : List Int} {L : List Nat} {k : Nat} (h : k < L.length) : addR m s D (L.take (k + 1)) = addS (addR m s D (L.take k)) (go m s L[k]) := by
  unfold addR; rw [List.take_succ_eq_append_getElem h, List.foldl_append]; rfl

theorem addR_take_pre {m : Mach} {s : Int} {D : List Int} {L : List Nat} {k : Nat} : addR m s D (L.take k) <+: addR m s D L := by
  have h := addR_pre m s (L.drop k) (addR m s D (L.take k))
  have e : addR m s (addR m s D (L.take k)) (L.drop k) = addR m s D L := by
    unfold addR; rw [← List.foldl_append, List.take_append_drop]
  rwa [e] at h

/-- The next number. -/
theorem num_step {m : Mach} {D fin : List Int} {t : Int} (hf : Sts m fin) (hp : addS D t <+: fin) (hD : D ≠ []) (ht : -1 ≤ t) :
    findI fin t ≤ D.length ∧ max ((D.length : Int) - 1) (findI fin t) = ((addS D t).length : Int) - 1 := by
  have hpos : 0 < D.length := List.length_pos_iff.2 hD
  by_cases h0 : t < 0
  · rw [addS_same (.inl h0)] at hp ⊢
    rw [findI_neg hf h0]; omega
  · by_cases hm : t ∈ D
    · rw [addS_same (.inr hm)] at hp ⊢
      rw [findI_pre hp hm, findI_in hm]
      have := ix_lt hm
      omega
    · have e : addS D t = D ++ [t] := by unfold addS; rw [if_pos ⟨by omega, hm⟩]
      rw [e] at hp ⊢
      rw [findI_pre hp (by simp), findI_in (by simp), ix_app_not hm, List.length_append]
      simp only [List.length_singleton]
      omega

theorem stepR_eq (m : Mach) (D : List Int) (s : Int) : stepR m D s = rowS2 m s D 256 := by unfold stepR; rfl

theorem least_row (m : Mach) {s k : Nat} (h : s < (leastM m).Next.length) (hs : s < (finM m).length) (hk : k < (Lc m (finM m) 256).length) : (leastM m).Next[s][k]? = some (findI (finM m) (go m (finM m)[s] (Lc m (finM m) 256)[k])) := by
  have e : (leastM m).Next[s]? = some ((Lc m (finM m) 256).map fun c => findI (finM m) (go m (finM m)[s] c)) := by
    unfold leastM
    simp only [List.getElem?_map, List.getElem?_eq_getElem hs, Option.map_some]
  rw [List.getElem?_eq_getElem h] at e
  rw [Option.some.inj e, List.getElem?_map, List.getElem?_eq_getElem hk]; rfl

end Go.Proofs.Ytbfjnldneemmiaa
