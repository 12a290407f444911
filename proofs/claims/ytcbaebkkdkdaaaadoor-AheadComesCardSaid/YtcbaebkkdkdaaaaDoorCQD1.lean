/-
  Plain: canonical items in order.
-/
import Derived.Test.YtcbaebkkdkdaaaaDoorAhBase1

namespace Go.Proofs.YtcbaebkkdkdaaaaDoor
set_option linter.all false

structure On where
  x : Itm
  t : Int
deriving DecidableEq

def ltO (a b : On) : Bool := decide (a.x.Prod < b.x.Prod) || (decide (a.x.Prod = b.x.Prod) && (decide (a.x.Dot < b.x.Dot) || (decide (a.x.Dot = b.x.Dot) && decide (a.t < b.t))))
theorem ltO_iff {a b : On} : ltO a b = true ↔ a.x.Prod < b.x.Prod ∨ (a.x.Prod = b.x.Prod ∧ (a.x.Dot < b.x.Dot ∨ (a.x.Dot = b.x.Dot ∧ a.t < b.t))) := by
  unfold ltO; simp only [Bool.or_eq_true, Bool.and_eq_true, decide_eq_true_eq]
theorem ltO_irr (a : On) : ltO a a = false := by
  cases h : ltO a a with
  | false => rfl
  | true => rw [ltO_iff] at h; omega
theorem ltO_trans {a b c : On} (h : ltO a b = true) (h2 : ltO b c = true) : ltO a c = true := by
  rw [ltO_iff] at *; omega
theorem ltO_asym {a b : On} (h : ltO a b = true) : ltO b a = false := by
  cases h2 : ltO b a with
  | false => rfl
  | true => rw [ltO_iff] at *; omega
theorem ltO_tri {a b : On} (h : ltO a b = false) (hne : a ≠ b) : ltO b a = true := by
  have h1 : ¬ (a.x.Prod < b.x.Prod ∨ (a.x.Prod = b.x.Prod ∧ (a.x.Dot < b.x.Dot ∨ (a.x.Dot = b.x.Dot ∧ a.t < b.t)))) := fun h2 => by rw [← ltO_iff, h] at h2; cases h2
  rw [ltO_iff]
  have : ¬ (a.x.Prod = b.x.Prod ∧ a.x.Dot = b.x.Dot ∧ a.t = b.t) := fun h3 => hne (by
    obtain ⟨⟨p, d⟩, t⟩ := a
    obtain ⟨⟨p', d'⟩, t'⟩ := b
    simp only at h3
    rw [h3.1, h3.2.1, h3.2.2])
  omega

def SortO (l : List On) : Prop := l.Pairwise fun a b => ltO a b = true

theorem SortO.ext : ∀ {a b : List On}, SortO a → SortO b → (∀ x, x ∈ a ↔ x ∈ b) → a = b
  | [], [], _, _, _ => rfl
  | [], y :: b, _, _, h => absurd ((h y).2 List.mem_cons_self) (by simp)
  | x :: a, [], _, _, h => absurd ((h x).1 List.mem_cons_self) (by simp)
  | x :: a, y :: b, ha, hb, h => by
    obtain ⟨ha1, ha2⟩ := List.pairwise_cons.1 ha
    obtain ⟨hb1, hb2⟩ := List.pairwise_cons.1 hb
    have hxy : x = y := by
      refine Classical.byContradiction (fun hne => ?_)
      have h1 := (List.mem_cons.1 ((h x).1 List.mem_cons_self)).resolve_left hne
      have h2 := (List.mem_cons.1 ((h y).2 List.mem_cons_self)).resolve_left (fun e => hne e.symm)
      have h3 := hb1 x h1
      have h4 := ha1 y h2
      rw [ltO_asym h3] at h4; cases h4
    subst hxy
    have : a = b := SortO.ext ha2 hb2 (fun z => by
      have hz := h z
      refine ⟨fun hm => ?_, fun hm => ?_⟩
      · rcases List.mem_cons.1 (hz.1 (List.mem_cons_of_mem _ hm)) with e | e
        · subst e; have := ha1 z hm; rw [ltO_irr] at this; cases this
        · exact e
      · rcases List.mem_cons.1 (hz.2 (List.mem_cons_of_mem _ hm)) with e | e
        · subst e; have := hb1 z hm; rw [ltO_irr] at this; cases this
        · exact e)
    rw [this]

/-- Items in order, and one more. -/
def putO : List On → On → List On
  | [], x => [x]
  | y :: l, x => if ltO y x then y :: putO l x else if y = x then y :: l else x :: y :: l

theorem putO_mem : ∀ {l : List On} {x y : On}, y ∈ putO l x ↔ y ∈ l ∨ y = x
  | [], x, y => by simp [putO]
  | z :: l, x, y => by
    unfold putO
    split
    · rw [List.mem_cons, putO_mem, List.mem_cons]
      exact ⟨fun h => h.elim (fun h => .inl (.inl h)) (fun h => h.elim (fun h => .inl (.inr h)) .inr), fun h => h.elim (fun h => h.elim .inl (fun h => .inr (.inl h))) (fun h => .inr (.inr h))⟩
    · split
      · rename_i e; subst e
        refine ⟨.inl, fun h => h.elim id (fun h => by subst h; exact List.mem_cons_self)⟩
      · rw [List.mem_cons]
        exact ⟨fun h => h.symm, fun h => h.symm⟩

theorem putO_sort : ∀ {l : List On} {x : On}, SortO l → SortO (putO l x)
  | [], x, _ => List.pairwise_singleton _ _
  | z :: l, x, h => by
    obtain ⟨h1, h2⟩ := List.pairwise_cons.1 h
    unfold putO
    split
    · rename_i hz
      refine List.pairwise_cons.2 ⟨fun y hy => ?_, putO_sort h2⟩
      rcases putO_mem.1 hy with hy | rfl
      · exact h1 y hy
      · exact hz
    · rename_i hz
      split
      · exact h
      · rename_i hne
        have hx := ltO_tri (by simpa using hz) hne
        refine List.pairwise_cons.2 ⟨fun y hy => ?_, h⟩
        rcases List.mem_cons.1 hy with rfl | hy
        · exact hx
        · exact ltO_trans hx (h1 y hy)

/-- The place at which an item stands, or would. -/
theorem putO_at : ∀ {l : List On} {x : On} {n : Nat}, n ≤ l.length → (∀ i (h : i < l.length), i < n → ltO l[i] x = true) → (∀ h : n < l.length, ltO l[n] x = false) →
    putO l x = if l[n]? = some x then l else l.take n ++ x :: l.drop n
  | [], x, n, hn, _, _ => by
    have : n = 0 := by simpa using hn
    subst this; rfl
  | y :: l, x, 0, _, _, h2 => by
    have h3 := h2 (by simp)
    rw [List.getElem_cons_zero] at h3
    unfold putO
    rw [if_neg (by rw [h3]; simp)]
    by_cases e : y = x
    · rw [if_pos e, if_pos (by simp [e])]
    · rw [if_neg e, if_neg (by simpa using e)]; rfl
  | y :: l, x, n + 1, hn, h1, h2 => by
    have h3 := h1 0 (by simp) (by omega)
    rw [List.getElem_cons_zero] at h3
    unfold putO
    rw [if_pos h3, putO_at (n := n) (by simpa using hn) (fun i h hi => by have := h1 (i + 1) (by simpa using h) (by omega); rwa [List.getElem_cons_succ] at this)
      (fun h => by have := h2 (by simpa using h); rwa [List.getElem_cons_succ] at this)]
    rw [List.getElem?_cons_succ]
    split
    · rfl
    · rfl


theorem putO_old : ∀ {l : List On} {x : On}, SortO l → x ∈ l → putO l x = l := fun hs hx => SortO.ext (putO_sort hs) hs (fun y => by rw [putO_mem]; exact ⟨fun h => h.elim id (fun e => e ▸ hx), .inl⟩)
theorem putO_new : ∀ {l : List On} {x : On}, x ∉ l → (putO l x).length = l.length + 1
  | [], x, _ => rfl
  | y :: l, x, h => by
    have h1 : y ≠ x := fun e => h (by rw [e]; exact List.mem_cons_self)
    have h2 : x ∉ l := fun e => h (List.mem_cons_of_mem _ e)
    unfold putO
    split
    · rw [List.length_cons, putO_new h2, List.length_cons]
    · simp

end Go.Proofs.YtcbaebkkdkdaaaaDoor
