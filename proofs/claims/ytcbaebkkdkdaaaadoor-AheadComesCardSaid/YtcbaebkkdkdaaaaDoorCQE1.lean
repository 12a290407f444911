/-
  Plain: of a text's tree: what becomes whole, and the term behind it.
-/
import Derived.Test.YtcbaebkkdkdaaaaDoorCQB0
import Derived.Test.YtcbaebkkdkdaaaaDoorAhBase4

namespace Go.Proofs.YtcbaebkkdkdaaaaDoor
set_option linter.all false
open Go.Proofs.YtcbaebkkdkdaaaaDoor.E

/-- A production that is whole: in which state, behind how many terms. -/
structure Wh where
  p : Nat
  s : Nat
  b : Nat

def nextAt (X : List Nat) (t b : Nat) : Nat := X.getD b t
def PieceOk (g : Gram) (sy : Int) (w : List Nat) : Prop := (sy < g.Terms.length → w = [sy.toNat]) ∧ (¬ sy < g.Terms.length → (w = [] → (bFix g).1.getD (sy - g.Terms.length).toNat false = true) ∧ ∀ a w', w = a :: w' → ((bFix g).2.getD (sy - g.Terms.length).toNat []).getD a false = true)
def SegOk (g : Gram) (l : List Int) (w : List Nat) : Prop := (w = [] → (rowT g.Terms.length (bFix g) l).2 = true) ∧ ∀ a w', w = a :: w' → (rowT g.Terms.length (bFix g) l).1.getD a false = true

theorem seg_nil (g : Gram) : SegOk g [] [] := ⟨fun _ => rfl, fun a w' h => by cases h⟩
theorem seg_cons {g : Gram} (he : checkE g = 0) {sy : Int} {l : List Int} {w v : List Nat} (h0 : 0 ≤ sy) (h1 : sy < (g.Terms.length : Int) + g.Nons.length) (hl : ∀ a ∈ l, a < (g.Terms.length : Int) + g.Nons.length) (hp : PieceOk g sy w) (hs : SegOk g l v) : SegOk g (sy :: l) (w ++ v) := by
  have hbi := bFix_inv (g := g) (gOk he).bs.nat
  unfold SegOk
  rw [show sy :: l = [sy] ++ l from rfl, rowT_append hbi hl]
  by_cases hst : sy < g.Terms.length
  · have hw := hp.1 hst
    subst hw
    obtain ⟨e1, e2⟩ := rowTerm (t := g.Terms.length) (s := bFix g) h0 hst
    rw [e2]
    refine ⟨fun h => by simp at h, fun a w' h => ?_⟩
    rw [List.cons_append, List.cons.injEq] at h
    rw [← h.1]; exact e1
  · obtain ⟨h2, h3⟩ := hp.2 hst
    obtain ⟨k, hk⟩ : ∃ k : Nat, sy - g.Terms.length = (k : Int) := ⟨(sy - g.Terms.length).toNat, by omega⟩
    have hkN : k < g.Nons.length := by omega
    have hsy : sy = (g.Terms.length : Int) + k := by omega
    rw [hk, Int.toNat_natCast] at h2 h3
    rw [hsy, rowOne hbi hkN]
    simp only
    have hlen : (rowT g.Terms.length (bFix g) l).1.length = ((bFix g).2.getD k []).length := by rw [rowT_len, hbi.row hkN]
    refine ⟨fun h => ?_, fun a w' h => ?_⟩
    · obtain ⟨e1, e2⟩ := List.append_eq_nil_iff.1 h
      rw [h2 e1, hs.1 e2]; rfl
    · cases w with
      | nil =>
        rw [h2 rfl, if_pos rfl, orL_getD a hlen, hs.2 a w' h]; simp
      | cons b w2 =>
        rw [List.cons_append, List.cons.injEq] at h
        have hb := h3 b w2 rfl
        rw [← h.1]
        split
        · rw [orL_getD b hlen, hb]; rfl
        · exact hb

/-- Of a name's tree: what is whole in it has the next term behind it; the first term behind the tree is t. -/
def KidOk (g : Gram) (GS : List (List Int)) (q n : Nat) (X w : List Nat) (E : List Wh) : Prop :=
  (∀ e ∈ E, e.b ≤ (X ++ w).length) ∧ ∀ t, (∀ k : Nat, k < g.Prods.length → (prd g k).Left = (n : Int) → LA g GS ⟨q, ⟨k, 0⟩⟩ t) → ∀ e ∈ E, LA g GS ⟨e.s, ⟨e.p, (prd g e.p).Right.length⟩⟩ (nextAt (X ++ w) t e.b)

inductive LoopOk (g : Gram) (GS : List (List Int)) (i q : Nat) (X : List Nat) : Nat → Nat → List Nat → List Wh → Prop
  | nil : LoopOk g GS i q X 0 q [] []
  | term {k q' a : Nat} {w : List Nat} {E : List Wh} {j : Nat} : LoopOk g GS i q X k q' w E → k < (prd g i).Right.length → (prd g i).Right.getD k 0 = (a : Int) → a < g.Terms.length → nextP g GS ⟨q', ⟨i, k⟩⟩ = ⟨j, ⟨i, (k : Int) + 1⟩⟩ → LoopOk g GS i q X (k + 1) j (w ++ [a]) E
  | name {k q' n : Nat} {w v : List Nat} {E F : List Wh} {j : Nat} : LoopOk g GS i q X k q' w E → k < (prd g i).Right.length → (prd g i).Right.getD k 0 = (g.Terms.length : Int) + n → n < g.Nons.length → PieceOk g ((g.Terms.length : Int) + n) v → KidOk g GS q' n (X ++ w) v F → nextP g GS ⟨q', ⟨i, k⟩⟩ = ⟨j, ⟨i, (k : Int) + 1⟩⟩ → LoopOk g GS i q X (k + 1) j (w ++ v) (E ++ F)

theorem beh_at {g : Gram} {i k : Nat} (h : k < (prd g i).Right.length) : beh g ⟨i, k⟩ = (prd g i).Right.getD k 0 := by
  unfold beh; simp only; rw [if_pos (by omega), Int.toNat_natCast]

theorem drop_at {l : List Int} {k : Nat} (h : k < l.length) : l.drop k = l.getD k 0 :: l.drop (k + 1) := by
  rw [List.drop_eq_getElem_cons h, List.getD_eq_getElem?_getD, List.getElem?_eq_getElem h]; rfl

theorem piece_term {g : Gram} {a : Nat} (ha : a < g.Terms.length) : PieceOk g (a : Int) [a] := ⟨fun _ => by simp, fun h => absurd (by omega) h⟩

theorem loop_seg {g : Gram} (he : checkE g = 0) {GS : List (List Int)} {i q : Nat} (hi : i < g.Prods.length) {X : List Nat} {k q' : Nat} {w : List Nat} {E : List Wh} (h : LoopOk g GS i q X k q' w E) : ∀ rest, SegOk g ((prd g i).Right.drop k) rest → SegOk g (prd g i).Right (w ++ rest) := by
  have hsy := (prod_ok (checkE_ok he).2 hi).2.2
  have hpi := prd_at hi
  have hr : ∀ k, ∀ a ∈ (prd g i).Right.drop k, a < (g.Terms.length : Int) + g.Nons.length := fun k a ha => by
    rw [hpi] at ha; exact (hsy a (List.mem_of_mem_drop ha)).2
  induction h with
  | nil => exact fun rest h => h
  | @term k q' a w E j h1 hk ha hat hn ih =>
    intro rest hs
    rw [List.append_assoc]
    refine ih _ ?_
    rw [drop_at hk, ha]
    exact seg_cons he (by omega) (by omega) (hr _) (piece_term hat) hs
  | @name k q' n w v E F j h1 hk ha hnn hp hkid hn ih =>
    intro rest hs
    rw [List.append_assoc]
    refine ih _ ?_
    rw [drop_at hk, ha]
    exact seg_cons he (by omega) (by omega) (hr _) hp hs

theorem nextAt_more {X rest : List Nat} {t b : Nat} (hb : b ≤ X.length) : nextAt (X ++ rest) t b = nextAt X (rest.getD 0 t) b := by
  unfold nextAt
  by_cases h : b < X.length
  · rw [List.getD_eq_getElem?_getD, List.getElem?_append_left h, List.getD_eq_getElem?_getD, List.getElem?_eq_getElem h]; rfl
  · have e : b = X.length := by omega
    subst e
    rw [List.getD_eq_getElem?_getD, List.getElem?_append_right (Nat.le_refl _), Nat.sub_self, List.getD_eq_getElem?_getD (l := X), List.getElem?_eq_none (Nat.le_refl _), ← List.getD_eq_getElem?_getD]; rfl

theorem loop_done {g : Gram} (he : checkE g = 0) {GS : List (List Int)} {i q : Nat} (hi : i < g.Prods.length) {X : List Nat} {k q' : Nat} {w : List Nat} {E : List Wh} (h : LoopOk g GS i q X k q' w E) :
    (∀ e ∈ E, e.b ≤ (X ++ w).length) ∧ ∀ rest, SegOk g ((prd g i).Right.drop k) rest → ∀ t, LA g GS ⟨q, ⟨i, 0⟩⟩ t → LA g GS ⟨q', ⟨i, k⟩⟩ t ∧ ∀ e ∈ E, LA g GS ⟨e.s, ⟨e.p, (prd g e.p).Right.length⟩⟩ (nextAt (X ++ w ++ rest) t e.b) := by
  have hsy := (prod_ok (checkE_ok he).2 hi).2.2
  have hpi := prd_at hi
  have hr : ∀ k, ∀ a ∈ (prd g i).Right.drop k, a < (g.Terms.length : Int) + g.Nons.length := fun k a ha => by
    rw [hpi] at ha; exact (hsy a (List.mem_of_mem_drop ha)).2
  induction h with
  | nil => exact ⟨fun e he => (nomatch he), fun rest _ t ht => ⟨ht, fun e he => (nomatch he)⟩⟩
  | @term k q' a w E j h1 hk ha hat hn ih =>
    refine ⟨fun e hE => ?_, fun rest hs t ht => ?_⟩
    · have := ih.1 e hE
      simp only [List.length_append] at this ⊢
      omega
    have hseg : SegOk g ((prd g i).Right.drop k) ([a] ++ rest) := by
      rw [drop_at hk, ha]; exact seg_cons he (by omega) (by omega) (hr _) (piece_term hat) hs
    obtain ⟨h2, h3⟩ := ih.2 _ hseg t ht
    refine ⟨?_, fun e hE => ?_⟩
    · have := LA.step h2 (Cons.shift (by simp only; omega))
      rwa [hn] at this
    · have := h3 e hE
      rwa [← List.append_assoc, List.append_assoc X] at this
  | @name k q' n w v E F j h1 hk ha hnn hp hkid hn ih =>
    refine ⟨fun e hE => ?_, fun rest hs t ht => ?_⟩
    · rcases List.mem_append.1 hE with hE | hE
      · have := ih.1 e hE
        simp only [List.length_append] at this ⊢
        omega
      · have := hkid.1 e hE
        simp only [List.length_append] at this ⊢
        omega
    have hseg : SegOk g ((prd g i).Right.drop k) (v ++ rest) := by
      rw [drop_at hk, ha]; exact seg_cons he (by omega) (by omega) (hr _) hp hs
    obtain ⟨h2, h3⟩ := ih.2 _ hseg t ht
    have hbeh := beh_at hk
    rw [ha] at hbeh
    refine ⟨?_, fun e hE => ?_⟩
    · have := LA.step h2 (Cons.shift (by simp only; omega))
      rwa [hn] at this
    · rcases List.mem_append.1 hE with hE | hE
      · have := h3 e hE
        rwa [← List.append_assoc, List.append_assoc X] at this
      · rw [← List.append_assoc X, nextAt_more (hkid.1 e hE)]
        refine hkid.2 _ (fun k' hk' hl => ?_) e hE
        refine LA.step h2 (Cons.close (p := ⟨q', ⟨i, k⟩⟩) (by simp only; omega) (by rw [hbeh]; omega) hk' (by rw [hbeh, hl]; omega) ?_)
        have hrl : restL g ⟨i, k⟩ = (prd g i).Right.drop (k + 1) := by unfold restL; simp only [Int.toNat_natCast]
        cases rest with
        | nil =>
          refine .inr ⟨?_, rfl⟩
          unfold restN; rw [hrl]; exact hs.1 rfl
        | cons a rest2 =>
          refine .inl ?_
          have := hs.2 a rest2 rfl
          show (restB g ⟨i, k⟩).getD a false = true
          unfold restB
          rw [hrl, List.getD_eq_getElem?_getD, List.getElem?_append_left (getD_lt this), ← List.getD_eq_getElem?_getD]
          exact this

/-- A name's tree, out of its production's. -/
theorem kid_of {g : Gram} (he : checkE g = 0) {GS : List (List Int)} {i q n : Nat} (hi : i < g.Prods.length) (hl : (prd g i).Left = (n : Int)) {X : List Nat} {q' : Nat} {w : List Nat} {E : List Wh} (h : LoopOk g GS i q X (prd g i).Right.length q' w E) :
    PieceOk g ((g.Terms.length : Int) + n) w ∧ KidOk g GS q n X w (E ++ [⟨i, q', (X ++ w).length⟩]) := by
  have hpi := prd_at hi
  have hseg0 : SegOk g ((prd g i).Right.drop (prd g i).Right.length) [] := by rw [List.drop_length]; exact seg_nil g
  obtain ⟨h1, h2⟩ := loop_done he hi h
  refine ⟨⟨fun h => absurd h (by omega), fun _ => ?_⟩, fun e hE => ?_, fun t ht e hE => ?_⟩
  · have hs := loop_seg he hi h [] hseg0
    rw [List.append_nil] at hs
    obtain ⟨p1, p2⟩ := part_known he g.Prods[i] (List.getElem_mem hi)
    rw [hpi] at hs hl
    rw [hl, Int.toNat_natCast] at p1 p2
    rw [show ((g.Terms.length : Int) + n - g.Terms.length).toNat = n by omega]
    exact ⟨fun e => p1 (hs.1 e), fun a w' e => p2 a (hs.2 a w' e)⟩
  · rcases List.mem_append.1 hE with hE | hE
    · exact h1 e hE
    · rw [List.mem_singleton] at hE; subst hE; exact Nat.le_refl _
  · obtain ⟨h3, h4⟩ := h2 [] hseg0 t (ht i hi hl)
    rcases List.mem_append.1 hE with hE | hE
    · have := h4 e hE
      rwa [List.append_nil] at this
    · rw [List.mem_singleton] at hE; subst hE
      have e2 : nextAt (X ++ w) t (X ++ w).length = t := by unfold nextAt; rw [List.getD_eq_getElem?_getD, List.getElem?_eq_none (Nat.le_refl _)]; rfl
      simp only
      rw [e2]; exact h3

end Go.Proofs.YtcbaebkkdkdaaaaDoor
