/-
  Plain: with one production more a grammar still may be.
-/
import Derived.Test.YtjeimmekhfhepaaErBase3

namespace Go.Proofs.Ytjeimmekhfhepaa
set_option linter.all false
open Go.Proofs.Ytjeimmekhfhepaa.E

/-- No less is known. -/
def LeB (a b : List Bool) : Prop := a.length = b.length ∧ ∀ i : Nat, a.getD i false = true → b.getD i false = true
theorem LeB.refl (a : List Bool) : LeB a a := ⟨rfl, fun _ h => h⟩
theorem LeB.trans {a b c : List Bool} (h : LeB a b) (h2 : LeB b c) : LeB a c := ⟨h.1.trans h2.1, fun i hi => h2.2 i (h.2 i hi)⟩
theorem getD_setT (a : List Bool) (i j : Nat) : (a.set i true).getD j false = true ↔ (i = j ∧ j < a.length) ∨ a.getD j false = true := by
  rw [List.getD_eq_getElem?_getD, List.getD_eq_getElem?_getD, List.getElem?_set]
  by_cases e : i = j
  · subst e
    by_cases h : i < a.length
    · simp [h]
    · simp [h]
  · simp [e]
theorem LeB.up (a : List Bool) (i : Nat) : LeB a (a.set i true) := ⟨by simp, fun j hj => (getD_setT a i j).2 (.inr hj)⟩
theorem LeB.set {a b : List Bool} (h : LeB a b) (i : Nat) : LeB (a.set i true) (b.set i true) := ⟨by simp [h.1], fun j hj => by
  rw [getD_setT] at hj ⊢
  rcases hj with ⟨e, h1⟩ | h1
  · exact .inl ⟨e, by rw [← h.1]; exact h1⟩
  · exact .inr (h.2 j h1)⟩
theorem okSym_mono {t : Nat} {a b : List Bool} (h : LeB a b) {s : Int} (hs : okSym t a s = true) : okSym t b s = true := by
  unfold okSym at hs ⊢
  rw [Bool.or_eq_true] at hs ⊢
  exact hs.imp id (h.2 _)
theorem uStep_mono (t : Nat) {a b : List Bool} (h : LeB a b) (p : Prd) : LeB (uStep t a p) (uStep t b p) := by
  unfold uStep
  by_cases h1 : p.Right.all (okSym t a) = true
  · have h2 : p.Right.all (okSym t b) = true := by
      rw [List.all_eq_true] at h1 ⊢
      exact fun s hs => okSym_mono h (h1 s hs)
    rw [if_pos h1, if_pos h2]
    exact h.set _
  · rw [if_neg h1]
    split
    · exact h.trans (LeB.up _ _)
    · exact h
theorem uStep_up (t : Nat) (a : List Bool) (p : Prd) : LeB a (uStep t a p) := by
  unfold uStep; split
  · exact LeB.up _ _
  · exact LeB.refl _
theorem uRound_mono (t : Nat) : ∀ (ps : List Prd) {a b : List Bool}, LeB a b → LeB (uRound t ps a) (uRound t ps b)
  | [], _, _, h => h
  | p :: ps, _, _, h => uRound_mono t ps (uStep_mono t h p)
theorem uIt_mono (t : Nat) (ps : List Prd) (x : Prd) : ∀ (n : Nat) {a b : List Bool}, LeB a b → LeB (it (uRound t ps) n a) (it (uRound t (ps ++ [x])) n b)
  | 0, _, _, h => h
  | n + 1, a, b, h => by
    refine uIt_mono t ps x n ?_
    have h1 := uRound_mono t ps h
    have h2 : uRound t (ps ++ [x]) b = uStep t (uRound t ps b) x := by unfold uRound; rw [List.foldl_append]; rfl
    rw [h2]
    exact h1.trans (uStep_up _ _ _)
/-- One production more. -/
def plus (g : Gram) (x : Prd) : Gram := { g with Prods := g.Prods ++ [x] }
theorem plus_at {g : Gram} {x : Prd} {i : Nat} (h : i < (plus g x).Prods.length) (h2 : i < g.Prods.length) : (plus g x).Prods[i] = g.Prods[i] := List.getElem_append_left h2
theorem plus_last {g : Gram} {x : Prd} (h : g.Prods.length < (plus g x).Prods.length) : (plus g x).Prods[g.Prods.length] = x := by
  have e : (plus g x).Prods[g.Prods.length]? = some x := by
    show (g.Prods ++ [x])[g.Prods.length]? = some x
    rw [List.getElem?_append_right (Nat.le_refl _), Nat.sub_self]; rfl
  rw [List.getElem?_eq_getElem h] at e
  exact Option.some.inj e
theorem plus_len (g : Gram) (x : Prd) : (plus g x).Prods.length = g.Prods.length + 1 := by show (g.Prods ++ [x]).length = _; simp
theorem plus_check {g : Gram} {k : Nat} (hk : k < g.Prods.length) {a : Int} (ha : 1 ≤ a ∧ a < g.Nons.length) (hc : checkE g = 0) (hn : g.Prods.length ≤ 100) : checkE (plus g (⟨a, g.Prods[k].Right, g.Prods[k].L⟩ : Prd)) = 0 := by
  obtain ⟨hl, hw⟩ := wf0_ofE hc
  have hu : (uFix g).all id = true := by
    rw [checkE_u hl hw] at hc
    split at hc
    · assumption
    · cases hc
  have hlim : limitsB (plus g (⟨a, g.Prods[k].Right, g.Prods[k].L⟩ : Prd)) = false := by
    unfold limitsB at hl ⊢
    simp only [Bool.or_eq_false_iff, decide_eq_false_iff_not] at hl ⊢
    obtain ⟨h1, h2, h3, h4⟩ := hl
    refine ⟨h1, h2, ?_, ?_⟩
    · show ¬ (g.Prods ++ [_]).length > 128
      rw [List.length_append, List.length_singleton]; omega
    · show (g.Prods ++ [_]).any _ = false
      rw [List.any_append, h4, Bool.false_or, List.any_cons, List.any_nil, Bool.or_false]
      have := List.any_eq_false.1 h4 _ (List.getElem_mem hk)
      simpa using this
  have hwf : Wf0 (plus g (⟨a, g.Prods[k].Right, g.Prods[k].L⟩ : Prd)) := by
    refine ⟨hw.t, hw.n, hw.lev, ?_, hw.bind, fun i hi => ?_, ?_⟩
    · show 0 < (g.Prods ++ [_]).length
      rw [List.length_append]; have := hw.prods; omega
    · have hi2 : i < g.Prods.length + 1 := by rw [← plus_len g ⟨a, g.Prods[k].Right, g.Prods[k].L⟩]; exact hi
      by_cases e : i < g.Prods.length
      · rw [plus_at hi e]; exact hw.prod i e
      · obtain rfl : i = g.Prods.length := by omega
        rw [plus_last hi]
        have hp := (prodOk_iff _ _ _ _).1 (hw.prod k hk)
        have := hw.prods
        rw [prodOk_iff]
        exact ⟨by show 0 ≤ a; omega, ha.2, by show a = 0 ↔ _; omega, hp.bind, hp.right⟩
    · obtain ⟨h1, h2, h3⟩ := (startOk_iff _ _).1 hw.start
      have h4 : 0 < (plus g ⟨a, g.Prods[k].Right, g.Prods[k].L⟩).Prods.length := by rw [plus_len]; omega
      have e := plus_at h4 h1
      refine (startOk_iff _ _).2 ⟨h4, by rw [e]; exact h2, ?_⟩
      simp only [e]; exact h3
  rw [checkE_u hlim hwf, if_pos]
  have hle : LeB (uFix g) (uFix (plus g (⟨a, g.Prods[k].Right, g.Prods[k].L⟩ : Prd))) := uIt_mono g.Terms.length g.Prods _ (g.Nons.length + 1) (LeB.refl _)
  rw [List.all_eq_true] at hu ⊢
  intro b hb
  obtain ⟨i, hi, rfl⟩ := List.getElem_of_mem hb
  have hi2 : i < (uFix g).length := by rw [hle.1]; exact hi
  have h1 : (uFix g).getD i false = true := by
    rw [List.getD_eq_getElem?_getD, List.getElem?_eq_getElem hi2]
    exact hu _ (List.getElem_mem hi2)
  have h2 := hle.2 i h1
  rw [List.getD_eq_getElem?_getD, List.getElem?_eq_getElem hi] at h2
  exact h2
theorem plus_mre (g : Gram) (x : Prd) : Mre g (plus g x) := by
  have hat : ∀ p, p < g.Prods.length → (g.Prods ++ [x])[p]? = g.Prods[p]? := fun p hp => List.getElem?_append_left hp
  refine ⟨rfl, by show _ ≤ (g.Prods ++ [x]).length; rw [List.length_append]; omega, fun p hp => ?_⟩
  have e : prd (plus g x) p = prd g p := by
    unfold prd
    rw [List.getD_eq_getElem?_getD, List.getD_eq_getElem?_getD]
    show ((g.Prods ++ [x])[_]?).getD _ = _
    rw [Int.toNat_natCast, hat p hp]
  unfold rhs lhs
  rw [e]
  exact ⟨rfl, rfl⟩

end Go.Proofs.Ytjeimmekhfhepaa
