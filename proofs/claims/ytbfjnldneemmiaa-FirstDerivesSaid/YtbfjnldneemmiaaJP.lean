/-
  Plain: of two rows, one behind the other.
-/
import Derived.Test.YtbfjnldneemmiaaU6
namespace Go.Proofs.Ytbfjnldneemmiaa
set_option linter.all false

theorem orP_get0 {r te : List Bool} {i : Nat} (h : i < r.length) : (orL r te)[i]? = some (r.getD i false || te.getD i false) := by
  unfold orL
  rw [orP_get h, decide_eq_true h, Bool.true_and]
  congr 2
  rw [List.getD_eq_getElem?_getD, List.getElem?_eq_getElem h]; rfl

theorem orL_getD {r te : List Bool} (i : Nat) (hl : te.length = r.length) : (orL r te).getD i false = (r.getD i false || te.getD i false) := by
  by_cases h : i < r.length
  · rw [List.getD_eq_getElem?_getD, orP_get0 h]; rfl
  · have h1 : (orL r te)[i]? = none := List.getElem?_eq_none (by rw [orL_len]; omega)
    have h2 : r[i]? = none := List.getElem?_eq_none (by omega)
    have h3 : te[i]? = none := List.getElem?_eq_none (by omega)
    simp only [List.getD_eq_getElem?_getD, h1, h2, h3]; rfl

theorem ext_getD {a b : List Bool} (hl : a.length = b.length) (h : ∀ i, i < a.length → a.getD i false = b.getD i false) : a = b := by
  apply List.ext_getElem hl
  intro i h1 h2
  have := h i h1
  rw [List.getD_eq_getElem?_getD, List.getD_eq_getElem?_getD, List.getElem?_eq_getElem h1, List.getElem?_eq_getElem h2] at this
  exact this

theorem orL_assoc {a b c : List Bool} (h1 : b.length = a.length) (h2 : c.length = a.length) : orL (orL a b) c = orL a (orL b c) := by
  refine ext_getD (by simp [orL_len]) fun i _ => ?_
  rw [orL_getD _ (by rw [orL_len]; exact h2), orL_getD _ h1, orL_getD _ (by rw [orL_len]; exact h1), orL_getD _ (by omega), Bool.or_assoc]

theorem orL_zero {a : List Bool} {t : Nat} (h : a.length = t) : orL a (List.replicate t false) = a := by
  refine ext_getD (orL_len _ _) fun i _ => ?_
  rw [orL_getD _ (by simp [h])]
  have : (List.replicate t false).getD i false = false := by
    rw [List.getD_eq_getElem?_getD, List.getElem?_replicate]; split <;> rfl
  rw [this, Bool.or_false]

theorem zero_orL {a : List Bool} {t : Nat} (h : a.length = t) : orL (List.replicate t false) a = a := by
  refine ext_getD (by rw [orL_len]; simp [h]) fun i _ => ?_
  rw [orL_getD _ (by simp [h])]
  have : (List.replicate t false).getD i false = false := by
    rw [List.getD_eq_getElem?_getD, List.getElem?_replicate]; split <;> rfl
  rw [this, Bool.false_or]

theorem getD_set {a : List Bool} (k i : Nat) (hi : i < a.length) : (a.set k true).getD i false = (decide (k = i) || a.getD i false) := by
  rw [List.getD_eq_getElem?_getD, List.getElem?_set, List.getD_eq_getElem?_getD]
  by_cases h : k = i
  · subst h; rw [if_pos rfl, if_pos hi]; simp
  · rw [if_neg h]; simp [h]

theorem rowS_acc {t n : Nat} {s : BSt} (hs : BInv t n s) : ∀ (l : List Int) (_ : ∀ x ∈ l, x < (t : Int) + n) (acc : List Bool), acc.length = t →
    rowS t s.1 s.2 l acc = (orL acc (rowS t s.1 s.2 l (List.replicate t false)).1, (rowS t s.1 s.2 l (List.replicate t false)).2)
  | [], _, acc, ha => by
    unfold rowS
    rw [orL_zero ha]
  | x :: l, hx, acc, ha => by
    have hxl := hx x (List.mem_cons_self ..)
    have ih := rowS_acc hs l (fun y hy => hx y (List.mem_cons_of_mem _ hy))
    unfold rowS
    by_cases hxt : x < (t : Int)
    · rw [if_pos hxt, if_pos hxt]
      congr 1
      refine ext_getD (by simp [orL_len]) fun i hi => ?_
      have hi' : i < acc.length := by simpa using hi
      rw [orL_getD _ (by simp [ha]), getD_set _ _ hi', getD_set _ _ (by simp; omega)]
      have : (List.replicate t false).getD i false = false := by
        rw [List.getD_eq_getElem?_getD, List.getElem?_replicate]; split <;> rfl
      rw [this, Bool.or_false, Bool.or_comm]
    · rw [if_neg hxt, if_neg hxt]
      have hf : (s.2.getD (x - t).toNat []).length = t := hs.row (by omega)
      generalize s.2.getD (x - t).toNat [] = f at hf
      have e1 : orL acc f = orL acc (orL (List.replicate t false) f) := by rw [zero_orL hf]
      split
      · rw [ih (orL acc f) (by rw [orL_len]; exact ha), ih (orL (List.replicate t false) f) (by simp [orL_len])]
        simp only
        congr 1
        have hr : (rowS t s.1 s.2 l (List.replicate t false)).1.length = t := by rw [rowS_len]; simp
        rw [zero_orL hf, orL_assoc (by omega) (by omega)]
      · rw [e1]

theorem rowS_cons {t : Nat} {no : List Bool} {fi : List (List Bool)} (s : Int) (l : List Int) (acc : List Bool) : rowS t no fi (s :: l) acc =
    if s < (t : Int) then (acc.set s.toNat true, false)
    else if no.getD (s - t).toNat false then rowS t no fi l (orL acc (fi.getD (s - t).toNat [])) else (orL acc (fi.getD (s - t).toNat []), false) := rfl

theorem rowS_append {t : Nat} {no : List Bool} {fi : List (List Bool)} (y : List Int) : ∀ (x : List Int) (acc : List Bool),
    rowS t no fi (x ++ y) acc = if (rowS t no fi x acc).2 then rowS t no fi y (rowS t no fi x acc).1 else rowS t no fi x acc
  | [], acc => by simp [rowS]
  | s :: x, acc => by
    rw [List.cons_append, rowS_cons, rowS_cons]
    split
    · simp
    · split
      · exact rowS_append y x _
      · simp

theorem rowT_append {t n : Nat} {s : BSt} (hs : BInv t n s) {x y : List Int} (hy : ∀ a ∈ y, a < (t : Int) + n) :
    rowT t s (x ++ y) = (if (rowT t s x).2 then orL (rowT t s x).1 (rowT t s y).1 else (rowT t s x).1, (rowT t s x).2 && (rowT t s y).2) := by
  unfold rowT
  rw [rowS_append]
  have hl : (rowS t s.1 s.2 x (List.replicate t false)).1.length = t := by rw [rowS_len]; simp
  cases h : (rowS t s.1 s.2 x (List.replicate t false)).2 with
  | true => rw [if_pos rfl, rowS_acc hs y hy _ hl]; rfl
  | false =>
    simp only [Bool.false_eq_true, if_false, Bool.false_and]
    exact Prod.ext rfl h

theorem ofE_zero {g : Gram} {l : List Int} (hc : checkE g = 0) (hl : l.length ≤ 1000) (h : ∀ s ∈ l, 0 ≤ s ∧ s < (g.Terms.length : Int) + g.Nons.length) : ofE g l = 0 := by
  unfold ofE
  have hany : l.any (inB g) = false := by
    rw [List.any_eq_false]
    intro x hx
    have := h x hx
    unfold inB
    simp only [Bool.or_eq_true, decide_eq_true_eq]
    omega
  rw [if_neg (by simpa using hc), if_neg (by omega), hany]
  rfl
theorem of_append {g : Gram} (hc : checkE g = 0) {x y : List Int} (hx : ofE g x = 0) (hy : ofE g y = 0) (hxy : ofE g (x ++ y) = 0) (hr : ∀ a ∈ y, a < (g.Terms.length : Int) + g.Nons.length) :
    ofN g (x ++ y) = (ofN g x && ofN g y) ∧ ∀ i, (ofT g (x ++ y)).getD i false = ((ofT g x).getD i false || (ofN g x && (ofT g y).getD i false)) := by
  have hi := (gOk hc).inv
  have h := rowT_append hi (x := x) hr
  simp only [ofN, ofT, hx, hy, hxy, if_true]
  rw [h]
  refine ⟨rfl, fun i => ?_⟩
  cases hm : (rowT g.Terms.length (bFix g) x).2 with
  | true => simp only [if_true, Bool.true_and]; rw [orL_getD _ (by rw [rowT_len, rowT_len])]
  | false => simp

end Go.Proofs.Ytbfjnldneemmiaa
