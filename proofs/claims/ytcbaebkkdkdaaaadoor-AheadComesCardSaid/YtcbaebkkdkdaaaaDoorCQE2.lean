/-
  Of each name a production by which it comes to terms: plain, and walked.
-/
import Derived.Test.YtcbaebkkdkdaaaaDoorCQB1
import Derived.Test.YtcbaebkkdkdaaaaDoorCQD7

namespace Go.Proofs.YtcbaebkkdkdaaaaDoor
set_option linter.all false
open Go.Proofs.YtcbaebkkdkdaaaaDoor.E

/-! ### plain -/
def okL (g : Gram) (was : List Int) (s : Int) : Bool := decide (s < g.Terms.length) || decide (was.getD (s - g.Terms.length).toNat (-1) ≥ 0)
def allL (g : Gram) (was : List Int) (i k : Nat) : Bool := ((prd g i).Right.take k).all (okL g was)
def isL (g : Gram) (was : List Int) (i : Nat) : Bool := decide (was.getD (lefN g i) 0 < 0) && allL g was i (prd g i).Right.length
def stepL (g : Gram) (was out : List Int) (i : Nat) : List Int := if isL g was i && decide (out.getD (lefN g i) 0 < 0) then out.set (lefN g i) (i : Int) else out
def roundL (g : Gram) (was : List Int) (n : Nat) : List Int := (List.range n).foldl (stepL g was) was
theorem roundL_succ (g : Gram) (was : List Int) (n : Nat) : roundL g was (n + 1) = stepL g was (roundL g was n) n := by unfold roundL; rw [List.range_succ, List.foldl_append]; rfl
def leastL (g : Gram) : List Int := it (fun was => roundL g was g.Prods.length) g.Nons.length (List.replicate g.Nons.length (-1))

/-- What is found is a production of the name. -/
structure LInv (g : Gram) (out : List Int) : Prop where
  n : out.length = g.Nons.length
  v : ∀ (m : Nat) (h : m < out.length), out[m] = -1 ∨ ∃ i : Nat, i < g.Prods.length ∧ out[m] = (i : Int) ∧ (prd g i).Left = (m : Int)

theorem LInv.step {g : Gram} (hwf : Wf0 g) {was out : List Int} (h : LInv g out) {i : Nat} (hi : i < g.Prods.length) : LInv g (stepL g was out i) := by
  unfold stepL
  split
  · refine ⟨by rw [List.length_set]; exact h.n, fun m hm => ?_⟩
    rw [List.getElem_set]
    split
    · rename_i e
      refine .inr ⟨i, hi, rfl, ?_⟩
      have := (prod_ok hwf hi).1
      rw [← prd_at hi] at this
      unfold lefN at e
      omega
    · exact h.v m (by rw [List.length_set] at hm; exact hm)
  · exact h
theorem LInv.round {g : Gram} (hwf : Wf0 g) {was : List Int} (h : LInv g was) : ∀ n, n ≤ g.Prods.length → LInv g (roundL g was n)
  | 0, _ => h
  | n + 1, hn => by rw [roundL_succ]; exact (LInv.round hwf h n (by omega)).step hwf (by omega)
theorem LInv.zero (g : Gram) : LInv g (List.replicate g.Nons.length (-1)) := ⟨List.length_replicate, fun m h => .inl (List.getElem_replicate ..)⟩
theorem LInv.it {g : Gram} (hwf : Wf0 g) (n : Nat) : LInv g (it (fun was => roundL g was g.Prods.length) n (List.replicate g.Nons.length (-1))) := it_inv (I := LInv g) (fun was h => h.round hwf _ (Nat.le_refl _)) (LInv.zero g) n

def cntL (out : List Int) : Nat := out.countP fun x => decide (x ≥ 0)
theorem cntL_set {out : List Int} {m : Nat} {v : Int} (hv : v ≥ 0) (h : m < out.length) (h0 : out[m] < 0) : cntL (out.set m v) = cntL out + 1 := by
  unfold cntL
  induction out generalizing m with
  | nil => simp at h
  | cons x out ih =>
    cases m with
    | zero => simp at h0; rw [List.set_cons_zero, List.countP_cons, List.countP_cons, decide_eq_true hv, decide_eq_false (by omega)]; simp
    | succ m => rw [List.set_cons_succ, List.countP_cons, List.countP_cons, ih (by simpa using h) (by simpa using h0)]; omega
theorem stepL_up {g : Gram} (was out : List Int) (i : Nat) : stepL g was out i = out ∨ cntL out < cntL (stepL g was out i) := by
  unfold stepL
  split
  · rename_i h
    simp only [Bool.and_eq_true, decide_eq_true_eq] at h
    have hlt : lefN g i < out.length := by
      rcases Nat.lt_or_ge (lefN g i) out.length with h1 | h1
      · exact h1
      · rw [List.getD_eq_getElem?_getD, List.getElem?_eq_none h1] at h; simp at h
    rw [getD_at' hlt] at h
    exact .inr (by rw [cntL_set (by omega) hlt h.2]; omega)
  · exact .inl rfl
where getD_at' {out : List Int} {m : Nat} (h : m < out.length) : out.getD m 0 = out[m] := by rw [List.getD_eq_getElem?_getD, List.getElem?_eq_getElem h]; rfl

theorem least_all {g : Gram} (he : checkE g = 0) (m : Nat) (hm : m < (leastL g).length) : ∃ i : Nat, i < g.Prods.length ∧ (leastL g)[m] = (i : Int) ∧ (prd g i).Left = (m : Int) := by
  obtain ⟨hl, hwf⟩ := checkE_ok he
  have hI := LInv.it hwf g.Nons.length
  have hn : (leastL g).length = g.Nons.length := hI.n
  refine ((hI.v m hm).resolve_left ?_)
  have hneg : ∀ (m : Nat) (hm : m < (leastL g).length), ¬ (leastL g)[m] < 0 := by
    rcases it_grow (f := fun was => roundL g was g.Prods.length) (I := LInv g) (μ := cntL) (fun was h => h.round hwf _ (Nat.le_refl _)) (fun was h hne => by
      rcases fold_up (f := stepL g was) (μ := cntL) (stepL_up was) (List.range g.Prods.length) was with h1 | h1
      · exact absurd h1 hne
      · exact h1) (LInv.zero g) g.Nons.length with hfix | hcnt
    · -- closed
      have hst := fold_fix (f := stepL g (leastL g)) (μ := cntL) (stepL_up (leastL g)) (List.range g.Prods.length) (leastL g) hfix
      have hcl : ∀ i : Nat, i < g.Prods.length → allL g (leastL g) i (prd g i).Right.length = true → ¬ (leastL g).getD (lefN g i) 0 < 0 := fun i hi hall hlt => by
        have h1 := hst i (List.mem_range.2 hi)
        unfold stepL at h1
        have hc : (isL g (leastL g) i && decide ((leastL g).getD (lefN g i) 0 < 0)) = true := by unfold isL; rw [hall, decide_eq_true hlt]; rfl
        rw [if_pos hc] at h1
        have hlt2 : lefN g i < (leastL g).length := by
          rw [hn]
          have := (prod_ok hwf hi)
          unfold lefN
          rw [prd_at hi]
          omega
        have h2 : ((leastL g).set (lefN g i) (i : Int)).getD (lefN g i) 0 = (leastL g).getD (lefN g i) 0 := by rw [h1]
        rw [List.getD_eq_getElem?_getD, List.getElem?_set_self hlt2] at h2
        simp at h2
        rw [List.getD_eq_getElem?_getD] at hlt
        omega
      have hall : (uFix g).all id = true := by
        have := checkE_u hl hwf
        rw [he] at this
        split at this
        · assumption
        · cases this
      have hulen : (uFix g).length = g.Nons.length := it_inv (I := fun l : List Bool => l.length = g.Nons.length) (fun x hx => by rw [uRound_len]; exact hx) (by simp) _
      have hround : ∀ (ps : List Prd), (∀ p ∈ ps, p ∈ g.Prods) → ∀ use : List Bool, (∀ n, use.getD n false = true → ¬ (leastL g).getD n (-1) < 0) → ∀ n, (uRound g.Terms.length ps use).getD n false = true → ¬ (leastL g).getD n (-1) < 0 := by
        intro ps
        induction ps with
        | nil => exact fun _ use h => h
        | cons p ps ih =>
          intro hs use h
          refine ih (fun q hq => hs q (List.mem_cons_of_mem _ hq)) (uStep g.Terms.length use p) (fun n hnn => ?_)
          unfold uStep at hnn
          split at hnn
          · rename_i hr
            by_cases en : p.Left.toNat = n
            · subst en
              obtain ⟨i, hi, rfl⟩ := List.getElem_of_mem (hs p (List.mem_cons_self ..))
              have hall2 : allL g (leastL g) i (prd g i).Right.length = true := by
                unfold allL
                rw [List.take_length, List.all_eq_true, prd_at hi]
                intro s hs2
                rw [List.all_eq_true] at hr
                have h2 := hr s hs2
                unfold okSym at h2
                unfold okL
                simp only [Bool.or_eq_true, decide_eq_true_eq] at h2 ⊢
                rcases h2 with h2 | h2
                · exact .inl h2
                · exact .inr (by have := h _ h2; omega)
              have h3 := hcl i hi hall2
              have hlt2 : lefN g i < (leastL g).length := by
                rw [hn]
                have := (prod_ok hwf hi)
                unfold lefN
                rw [prd_at hi]
                omega
              have e1 : lefN g i = g.Prods[i].Left.toNat := by unfold lefN; rw [prd_at hi]
              rw [e1] at h3 hlt2
              rw [List.getD_eq_getElem?_getD, List.getElem?_eq_getElem hlt2] at h3 ⊢
              exact h3
            · rw [List.getD_eq_getElem?_getD, List.getElem?_set_ne en, ← List.getD_eq_getElem?_getD] at hnn
              exact h n hnn
          · exact h n hnn
      have hinv : ∀ n, (uFix g).getD n false = true → ¬ (leastL g).getD n (-1) < 0 :=
        it_inv (I := fun use : List Bool => ∀ n, use.getD n false = true → ¬ (leastL g).getD n (-1) < 0) (fun use h => hround g.Prods (fun _ h => h) use h) (by
          intro n h
          rw [List.getD_eq_getElem?_getD, List.getElem?_replicate] at h
          split at h <;> simp at h) _
      intro m hm
      have hu : (uFix g).getD m false = true := by
        rw [List.getD_eq_getElem?_getD, List.getElem?_eq_getElem (by omega)]
        rw [List.all_eq_true] at hall
        exact hall _ (List.getElem_mem _)
      have := hinv m hu
      rw [List.getD_eq_getElem?_getD, List.getElem?_eq_getElem hm] at this
      exact this
    · -- as many as there are names
      intro m hm hlt
      have h1 : cntL (leastL g) = (leastL g).length := Nat.le_antisymm List.countP_le_length (by rw [hn]; exact hcnt)
      have h2 := (List.countP_eq_length.1 h1) _ (List.getElem_mem hm)
      simp only [decide_eq_true_eq] at h2
      omega
  intro e
  exact hneg m hm (by rw [show (leastL g)[m] = -1 from e]; omega)

end Go.Proofs.YtcbaebkkdkdaaaaDoor
