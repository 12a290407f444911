/-
  Plain: what is derived by the first name of a row begins as the row can.
-/
import Derived.Test.YtbfjnldneemmiaaKP
namespace Go.Proofs.Ytbfjnldneemmiaa
set_option linter.all false

/-! ### each name has a production -/
theorem uStep_has {t : Nat} {ps : List Prd} {use : List Bool} {p : Prd} (hp : p ∈ ps) (h : ∀ n, use.getD n false = true → ∃ q ∈ ps, q.Left.toNat = n) : ∀ n, (uStep t use p).getD n false = true → ∃ q ∈ ps, q.Left.toNat = n := by
  intro n hn
  unfold uStep at hn
  split at hn
  · rcases getD_set_true hn with ⟨h1, _⟩ | h1
    · exact ⟨p, hp, h1⟩
    · exact h n h1
  · exact h n hn

theorem uRound_has {t : Nat} {qs : List Prd} : ∀ (ps : List Prd) (_ : ∀ p ∈ ps, p ∈ qs) (use : List Bool), (∀ n, use.getD n false = true → ∃ q ∈ qs, q.Left.toNat = n) → ∀ n, (uRound t ps use).getD n false = true → ∃ q ∈ qs, q.Left.toNat = n
  | [], _, _, h => h
  | p :: ps, hs, use, h => uRound_has ps (fun q hq => hs q (List.mem_cons_of_mem _ hq)) (uStep t use p) (uStep_has (hs p (List.mem_cons_self ..)) h)

theorem has_prod {g : Gram} (he : checkE g = 0) {n : Nat} (hn : n < g.Nons.length) : ∃ i, ∃ (h : i < g.Prods.length), g.Prods[i].Left = n := by
  obtain ⟨hl, hw⟩ := wf0_of he
  have hall : (uFix g).all id = true := by
    have := checkE_u hl hw
    rw [he] at this
    split at this
    · assumption
    · cases this
  have hlen : (uFix g).length = g.Nons.length := it_inv (I := fun l : List Bool => l.length = g.Nons.length) (fun x hx => by rw [uRound_len]; exact hx) (by simp) _
  have hinv : ∀ n, (uFix g).getD n false = true → ∃ q ∈ g.Prods, q.Left.toNat = n :=
    it_inv (I := fun use : List Bool => ∀ n, use.getD n false = true → ∃ q ∈ g.Prods, q.Left.toNat = n) (fun use h => uRound_has g.Prods (fun _ h => h) use h) (by
      intro n h
      rw [List.getD_eq_getElem?_getD, List.getElem?_replicate] at h
      split at h <;> simp at h) _
  have hu : (uFix g).getD n false = true := by
    rw [List.getD_eq_getElem?_getD, List.getElem?_eq_getElem (by omega)]
    rw [List.all_eq_true] at hall
    exact hall _ (List.getElem_mem _)
  obtain ⟨q, hq, h⟩ := hinv n hu
  obtain ⟨i, hi, rfl⟩ := List.getElem_of_mem hq
  have := (bsOk_of hw).left i hi
  exact ⟨i, hi, by omega⟩

/-! ### the productions of a name -/
def waysN (ps : List Prd) (L : Int) : Nat → List Int
  | 0 => []
  | k + 1 => if (ps[k]?.map (·.Left)) = some L then waysN ps L k ++ [(k : Int)] else waysN ps L k

theorem waysN_len (ps : List Prd) (L : Int) : ∀ k, (waysN ps L k).length ≤ k
  | 0 => Nat.le_refl _
  | k + 1 => by
    have := waysN_len ps L k
    unfold waysN
    split
    · simp; omega
    · omega

theorem waysN_mem {ps : List Prd} {L : Int} : ∀ {k : Nat} {x : Int}, x ∈ waysN ps L k → ∃ q : Nat, ∃ (h : q < ps.length), x = q ∧ q < k ∧ ps[q].Left = L
  | 0, x, h => by cases h
  | k + 1, x, h => by
    unfold waysN at h
    split at h
    · rename_i hk
      rcases List.mem_append.1 h with h | h
      · obtain ⟨q, hq, h1, h2, h3⟩ := waysN_mem h
        exact ⟨q, hq, h1, by omega, h3⟩
      · simp only [List.mem_singleton] at h
        obtain ⟨p, hp, hpl⟩ := Option.map_eq_some_iff.1 hk
        obtain ⟨hlt, hpe⟩ := List.getElem?_eq_some_iff.1 hp
        exact ⟨k, hlt, h, by omega, by rw [hpe]; exact hpl⟩
    · obtain ⟨q, hq, h1, h2, h3⟩ := waysN_mem h
      exact ⟨q, hq, h1, by omega, h3⟩

theorem waysN_pos {ps : List Prd} {L : Int} {q : Nat} (hq : q < ps.length) (hL : ps[q].Left = L) : ∀ {k : Nat}, q < k → 0 < (waysN ps L k).length
  | 0, h => by omega
  | k + 1, h => by
    unfold waysN
    split
    · simp
    · rename_i hk
      have : q ≠ k := by
        rintro rfl
        exact hk (by rw [List.getElem?_eq_getElem hq, Option.map_some, hL])
      exact waysN_pos hq hL (by omega)

/-! ### what a row begins with, bounded by what another does -/
structure RLe (a b : List Bool × Bool) : Prop where
  no : a.2 = true → b.2 = true
  fi : ∀ i, a.1.getD i false = true → b.1.getD i false = true

theorem RLe.refl (a : List Bool × Bool) : RLe a a := ⟨fun h => h, fun _ h => h⟩
theorem RLe.trans {a b c : List Bool × Bool} (h : RLe a b) (h' : RLe b c) : RLe a c := ⟨fun x => h'.no (h.no x), fun i x => h'.fi i (h.fi i x)⟩

theorem rowT_appMono {t n : Nat} {s : BSt} (hs : BInv t n s) {x x' y : List Int} (hy : ∀ a ∈ y, a < (t : Int) + n) (h : RLe (rowT t s x) (rowT t s x')) : RLe (rowT t s (x ++ y)) (rowT t s (x' ++ y)) := by
  rw [rowT_append hs hy, rowT_append hs hy]
  refine ⟨fun h1 => ?_, fun i h1 => ?_⟩
  · simp only [Bool.and_eq_true] at h1 ⊢
    exact ⟨h.no h1.1, h1.2⟩
  · simp only at h1 ⊢
    have hl : (rowT t s y).1.length = (rowT t s x').1.length := by rw [rowT_len, rowT_len]
    have hl2 : (rowT t s y).1.length = (rowT t s x).1.length := by rw [rowT_len, rowT_len]
    cases hx : (rowT t s x).2 with
    | true =>
      rw [hx, if_pos rfl] at h1
      rw [h.no hx, if_pos rfl, orL_getD _ hl]
      rcases orL_true hl2 h1 with h2 | h2
      · rw [h.fi i h2]; rfl
      · rw [h2, Bool.or_true]
    | false =>
      rw [hx] at h1
      simp only [Bool.false_eq_true, if_false] at h1
      split
      · rw [orL_getD _ hl, h.fi i h1]; rfl
      · exact h.fi i h1

theorem rowT_one {t n : Nat} {s : BSt} (hs : BInv t n s) {k : Nat} (hk : k < n) : rowT t s [(t : Int) + k] = (s.2.getD k [], s.1.getD k false) := by
  unfold rowT
  rw [rowS_cons, if_neg (by omega)]
  have e : ((t : Int) + k - t).toNat = k := by omega
  rw [e, zero_orL (hs.row hk)]
  cases s.1.getD k false <;> rfl

/-- A production in the place of its name: no more. -/
theorem derive_le {g : Gram} (he : checkE g = 0) (p : Prd) (hp : p ∈ g.Prods) (rest : List Int) (hr : ∀ a ∈ rest, a < (g.Terms.length : Int) + g.Nons.length) :
    RLe (rowT g.Terms.length (bFix g) (p.Right ++ rest)) (rowT g.Terms.length (bFix g) (((g.Terms.length : Int) + p.Left) :: rest)) := by
  have hok := gOk he
  obtain ⟨h1, h2⟩ := part_known he p hp
  obtain ⟨i, hi, rfl⟩ := List.getElem_of_mem hp
  have hl := hok.bs.left i hi
  have e : (g.Terms.length : Int) + g.Prods[i].Left = (g.Terms.length : Int) + (g.Prods[i].Left.toNat : Nat) := by omega
  have := rowT_appMono hok.inv (x := g.Prods[i].Right) (x' := [(g.Terms.length : Int) + g.Prods[i].Left]) hr (by
    rw [e, rowT_one hok.inv (by omega)]
    exact ⟨h1, h2⟩)
  exact this

end Go.Proofs.Ytbfjnldneemmiaa
