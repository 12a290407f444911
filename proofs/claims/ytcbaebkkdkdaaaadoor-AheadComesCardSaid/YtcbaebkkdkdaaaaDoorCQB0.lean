/-
  Plain: a row of symbols can begin with some term, or be nothing.
-/
import Derived.Test.YtcbaebkkdkdaaaaDoorCQBK
import Derived.Test.YtcbaebkkdkdaaaaDoorAhBase4

namespace Go.Proofs.YtcbaebkkdkdaaaaDoor
set_option linter.all false
open Go.Proofs.YtcbaebkkdkdaaaaDoor.E

theorem rowOne {t n : Nat} {s : BSt} (hs : BInv t n s) {k : Nat} (hk : k < n) : rowT t s [(t : Int) + k] = (s.2.getD k [], s.1.getD k false) := by
  unfold rowT
  rw [rowS_cons, if_neg (by omega)]
  have e : ((t : Int) + k - t).toNat = k := by omega
  rw [e, zero_orL (hs.row hk)]
  cases s.1.getD k false <;> rfl

theorem rowTerm {t : Nat} {s : BSt} {x : Int} (h0 : 0 ≤ x) (h1 : x < t) : (rowT t s [x]).1.getD x.toNat false = true ∧ (rowT t s [x]).2 = false := by
  unfold rowT
  rw [rowS_cons, if_pos h1]
  refine ⟨?_, rfl⟩
  rw [List.getD_eq_getElem?_getD, List.getElem?_set_self (by rw [List.length_replicate]; omega)]; rfl

abbrev Full (s : BSt) (k : Nat) : Prop := (∃ u, (s.2.getD k []).getD u false = true) ∨ s.1.getD k false = true

theorem rowT_full {t n : Nat} {s : BSt} (hs : BInv t n s) : ∀ (l : List Int), (∀ x ∈ l, (0 ≤ x ∧ x < t) ∨ ∃ k : Nat, k < n ∧ x = (t : Int) + k ∧ Full s k) → (∃ u, (rowT t s l).1.getD u false = true) ∨ (rowT t s l).2 = true
  | [], _ => .inr rfl
  | x :: l, h => by
    have ih := rowT_full hs l (fun y hy => h y (List.mem_cons_of_mem _ hy))
    have hr : ∀ a ∈ l, a < (t : Int) + n := fun a ha => by rcases h a (List.mem_cons_of_mem _ ha) with h1 | ⟨k, hk, rfl, _⟩ <;> omega
    rw [show x :: l = [x] ++ l from rfl, rowT_append hs hr]
    rcases h x (List.mem_cons_self ..) with ⟨h0, h1⟩ | ⟨k, hk, rfl, hu⟩
    · obtain ⟨e1, e2⟩ := rowTerm (t := t) (s := s) h0 h1
      rw [e2]
      exact .inl ⟨_, e1⟩
    · rw [rowOne hs hk]
      simp only
      have hl : (rowT t s l).1.length = (s.2.getD k []).length := by rw [rowT_len, hs.row hk]
      cases hn : s.1.getD k false with
      | false =>
        rcases hu with ⟨u, hu⟩ | hu
        · exact .inl ⟨u, hu⟩
        · rw [hn] at hu; cases hu
      | true =>
        rw [if_pos rfl]
        rcases ih with ⟨u, h2⟩ | h2
        · exact .inl ⟨u, by rw [orL_getD u hl, h2]; simp⟩
        · exact .inr (by rw [h2]; rfl)

theorem all_full {g : Gram} (he : checkE g = 0) {k : Nat} (hk : k < g.Nons.length) : Full (bFix g) k := by
  obtain ⟨hl, hw⟩ := checkE_ok he
  have hall : (uFix g).all id = true := by
    have := checkE_u hl hw
    rw [he] at this
    split at this
    · assumption
    · cases this
  have hbi := bFix_inv (g := g) (gOk he).bs.nat
  have hlen : (uFix g).length = g.Nons.length := it_inv (I := fun l : List Bool => l.length = g.Nons.length) (fun x hx => by rw [uRound_len]; exact hx) (by simp) _
  have hstep : ∀ (ps : List Prd), (∀ p ∈ ps, p ∈ g.Prods) → ∀ use : List Bool, (∀ n, use.getD n false = true → Full (bFix g) n) → ∀ n, (uRound g.Terms.length ps use).getD n false = true → Full (bFix g) n := by
    intro ps
    induction ps with
    | nil => exact fun _ use h => h
    | cons p ps ih =>
      intro hs use h
      refine ih (fun q hq => hs q (List.mem_cons_of_mem _ hq)) (uStep g.Terms.length use p) (fun n hn => ?_)
      unfold uStep at hn
      split at hn
      · rename_i hr
        rcases getD_set_true hn with ⟨h1, _⟩ | h1
        · subst h1
          have hp := hs p (List.mem_cons_self ..)
          obtain ⟨e1, e2⟩ := part_known he p hp
          obtain ⟨i, hi, rfl⟩ := List.getElem_of_mem hp
          obtain ⟨_, _, hsy⟩ := prod_ok hw hi
          rw [List.all_eq_true] at hr
          rcases rowT_full hbi g.Prods[i].Right (fun x hx => by
            have h2 := hr x hx
            have h3 := hsy x hx
            unfold okSym at h2
            simp only [Bool.or_eq_true, decide_eq_true_eq] at h2
            by_cases h4 : x < g.Terms.length
            · exact .inl ⟨h3.1, h4⟩
            · refine .inr ⟨(x - g.Terms.length).toNat, by omega, by omega, h _ (h2.resolve_left h4)⟩) with ⟨u, hu⟩ | hu
          · exact .inl ⟨u, e2 u hu⟩
          · exact .inr (e1 hu)
        · exact h n h1
      · exact h n hn
  have hinv : ∀ n, (uFix g).getD n false = true → Full (bFix g) n :=
    it_inv (I := fun use : List Bool => ∀ n, use.getD n false = true → Full (bFix g) n) (fun use h => hstep g.Prods (fun _ h => h) use h) (by
      intro n h
      rw [List.getD_eq_getElem?_getD, List.getElem?_replicate] at h
      split at h <;> simp at h) _
  refine hinv k ?_
  rw [List.getD_eq_getElem?_getD, List.getElem?_eq_getElem (by omega)]
  rw [List.all_eq_true] at hall
  exact hall _ (List.getElem_mem _)

theorem rest_full {g : Gram} (he : checkE g = 0) {x : Itm} (hx : inG g x = true) : (∃ u, (restB g x).getD u false = true) ∨ restN g x = true := by
  obtain ⟨hl, hw⟩ := checkE_ok he
  have hbi := bFix_inv (g := g) (gOk he).bs.nat
  have hx2 := hx
  unfold inG at hx2
  simp only [Bool.and_eq_true, decide_eq_true_eq] at hx2
  obtain ⟨p, hp⟩ : ∃ p : Nat, x.Prod = (p : Int) := ⟨x.Prod.toNat, by omega⟩
  have hpl : p < g.Prods.length := by omega
  obtain ⟨_, _, hsy⟩ := prod_ok hw hpl
  rcases rowT_full hbi (restL g x) (fun s hs => by
    unfold restL at hs
    rw [hp, prd_at hpl] at hs
    have h3 := hsy s (List.mem_of_mem_drop hs)
    by_cases h4 : s < g.Terms.length
    · exact .inl ⟨h3.1, h4⟩
    · exact .inr ⟨(s - g.Terms.length).toNat, by omega, by omega, all_full he (by omega)⟩) with ⟨u, hu⟩ | hu
  · refine .inl ⟨u, ?_⟩
    unfold restB
    have hul : u < (rowT g.Terms.length (bFix g) (restL g x)).1.length := by
      rcases Nat.lt_or_ge u (rowT g.Terms.length (bFix g) (restL g x)).1.length with h1 | h1
      · exact h1
      · rw [List.getD_eq_getElem?_getD, List.getElem?_eq_none h1] at hu; cases hu
    rw [List.getD_eq_getElem?_getD, List.getElem?_append_left hul, ← List.getD_eq_getElem?_getD]
    exact hu
  · exact .inr hu

end Go.Proofs.YtcbaebkkdkdaaaaDoor
