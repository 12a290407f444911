/-
  Plain: rows, one behind the other (what of JP and U6 is needed beside the program's states).
-/
import Derived.Test.YtcbaebkkdkdaaaaDoorAhBase2

namespace Go.Proofs.YtcbaebkkdkdaaaaDoor
set_option linter.all false

structure GrOk (g : Gram) : Prop where
  t48 : g.Terms.length ≤ 48
  n48 : g.Nons.length ≤ 48
  n2 : 2 ≤ g.Nons.length
  bs : BsOk g.Terms.length g.Nons.length g.Prods
  inv : BInv g.Terms.length g.Nons.length (bFix g)

theorem gOk {g : Gram} (h : checkE g = 0) : GrOk g := by
  obtain ⟨hl, hw⟩ := wf0_of h
  obtain ⟨h1, h2, _⟩ := lim_n hl
  exact ⟨h1, h2, hw.n, bsOk_of hw, bFix_inv (bsOk_of hw).nat⟩

theorem orP_get0 {r te : List Bool} {i : Nat} (h : i < r.length) : (orL r te)[i]? = some (r.getD i false || te.getD i false) := by
  unfold orL
  rw [orP_get h, decide_eq_true h, Bool.true_and]
  congr 2
  rw [List.getD_eq_getElem?_getD, List.getElem?_eq_getElem h]; rfl

theorem orL_getD {r te : List Bool} (i : Nat) (hl : te.length = r.length) : (orL r te).getD i false = (r.getD i false || te.getD i false) := by
  by_cases h : i < r.length
  · rw [List.getD_eq_getElem?_getD, orP_get0 h]; rfl
  · have h1 : (orL r te)[i]? = none := List.getElem?_eq_none (by rw [orL_len]; omega)
    have h2 : r[i]? = none := List.getElem?_eq_none (by omega)
    have h3 : te[i]? = none := List.getElem?_eq_none (by omega)
    simp only [List.getD_eq_getElem?_getD, h1, h2, h3]; rfl

theorem ext_getD {a b : List Bool} (hl : a.length = b.length) (h : ∀ i, i < a.length → a.getD i false = b.getD i false) : a = b := by
  apply List.ext_getElem hl
  intro i h1 h2
  have := h i h1
  rw [List.getD_eq_getElem?_getD, List.getD_eq_getElem?_getD, List.getElem?_eq_getElem h1, List.getElem?_eq_getElem h2] at this
  exact this

theorem orL_assoc {a b c : List Bool} (h1 : b.length = a.length) (h2 : c.length = a.length) : orL (orL a b) c = orL a (orL b c) := by
  refine ext_getD (by simp [orL_len]) fun i _ => ?_
  rw [orL_getD _ (by rw [orL_len]; exact h2), orL_getD _ h1, orL_getD _ (by rw [orL_len]; exact h1), orL_getD _ (by omega), Bool.or_assoc]

theorem orL_zero {a : List Bool} {t : Nat} (h : a.length = t) : orL a (List.replicate t false) = a := by
  refine ext_getD (orL_len _ _) fun i _ => ?_
  rw [orL_getD _ (by simp [h])]
  have : (List.replicate t false).getD i false = false := by
    rw [List.getD_eq_getElem?_getD, List.getElem?_replicate]; split <;> rfl
  rw [this, Bool.or_false]

theorem zero_orL {a : List Bool} {t : Nat} (h : a.length = t) : orL (List.replicate t false) a = a := by
  refine ext_getD (by rw [orL_len]; simp [h]) fun i _ => ?_
  rw [orL_getD _ (by simp [h])]
  have : (List.replicate t false).getD i false = false := by
    rw [List.getD_eq_getElem?_getD, List.getElem?_replicate]; split <;> rfl
  rw [this, Bool.false_or]

theorem getD_set {a : List Bool} (k i : Nat) (hi : i < a.length) : (a.set k true).getD i false = (decide (k = i) || a.getD i false) := by
  rw [List.getD_eq_getElem?_getD, List.getElem?_set, List.getD_eq_getElem?_getD]
  by_cases h : k = i
  · subst h; rw [if_pos rfl, if_pos hi]; simp
  · rw [if_neg h]; simp [h]

theorem rowS_acc {t n : Nat} {s : BSt} (hs : BInv t n s) : ∀ (l : List Int) (_ : ∀ x ∈ l, x < (t : Int) + n) (acc : List Bool), acc.length = t →
    rowS t s.1 s.2 l acc = (orL acc (rowS t s.1 s.2 l (List.replicate t false)).1, (rowS t s.1 s.2 l (List.replicate t false)).2)
  | [], _, acc, ha => by
    unfold rowS
    rw [orL_zero ha]
  | x :: l, hx, acc, ha => by
    have hxl := hx x (List.mem_cons_self ..)
    have ih := rowS_acc hs l (fun y hy => hx y (List.mem_cons_of_mem _ hy))
    unfold rowS
    by_cases hxt : x < (t : Int)
    · rw [if_pos hxt, if_pos hxt]
      congr 1
      refine ext_getD (by simp [orL_len]) fun i hi => ?_
      have hi' : i < acc.length := by simpa using hi
      rw [orL_getD _ (by simp [ha]), getD_set _ _ hi', getD_set _ _ (by simp; omega)]
      have : (List.replicate t false).getD i false = false := by
        rw [List.getD_eq_getElem?_getD, List.getElem?_replicate]; split <;> rfl
      rw [this, Bool.or_false, Bool.or_comm]
    · rw [if_neg hxt, if_neg hxt]
      have hf : (s.2.getD (x - t).toNat []).length = t := hs.row (by omega)
      generalize s.2.getD (x - t).toNat [] = f at hf
      have e1 : orL acc f = orL acc (orL (List.replicate t false) f) := by rw [zero_orL hf]
      split
      · rw [ih (orL acc f) (by rw [orL_len]; exact ha), ih (orL (List.replicate t false) f) (by simp [orL_len])]
        simp only
        congr 1
        have hr : (rowS t s.1 s.2 l (List.replicate t false)).1.length = t := by rw [rowS_len]; simp
        rw [zero_orL hf, orL_assoc (by omega) (by omega)]
      · rw [e1]

theorem rowS_cons {t : Nat} {no : List Bool} {fi : List (List Bool)} (s : Int) (l : List Int) (acc : List Bool) : rowS t no fi (s :: l) acc =
    if s < (t : Int) then (acc.set s.toNat true, false)
    else if no.getD (s - t).toNat false then rowS t no fi l (orL acc (fi.getD (s - t).toNat [])) else (orL acc (fi.getD (s - t).toNat []), false) := rfl

theorem rowS_append {t : Nat} {no : List Bool} {fi : List (List Bool)} (y : List Int) : ∀ (x : List Int) (acc : List Bool),
    rowS t no fi (x ++ y) acc = if (rowS t no fi x acc).2 then rowS t no fi y (rowS t no fi x acc).1 else rowS t no fi x acc
  | [], acc => by simp [rowS]
  | s :: x, acc => by
    rw [List.cons_append, rowS_cons, rowS_cons]
    split
    · simp
    · split
      · exact rowS_append y x _
      · simp

theorem rowT_append {t n : Nat} {s : BSt} (hs : BInv t n s) {x y : List Int} (hy : ∀ a ∈ y, a < (t : Int) + n) :
    rowT t s (x ++ y) = (if (rowT t s x).2 then orL (rowT t s x).1 (rowT t s y).1 else (rowT t s x).1, (rowT t s x).2 && (rowT t s y).2) := by
  unfold rowT
  rw [rowS_append]
  have hl : (rowS t s.1 s.2 x (List.replicate t false)).1.length = t := by rw [rowS_len]; simp
  cases h : (rowS t s.1 s.2 x (List.replicate t false)).2 with
  | true => rw [if_pos rfl, rowS_acc hs y hy _ hl]; rfl
  | false =>
    simp only [Bool.false_eq_true, if_false, Bool.false_and]
    exact Prod.ext rfl h


end Go.Proofs.YtcbaebkkdkdaaaaDoor
