/-
  Plain: what a row can begin with; rounds of it; their fixed point.
-/
import Derived.Test.YtbfjnldneemmiabFP
namespace Go.Proofs.Ytbfjnldneemmiab
set_option linter.all false

def orP (r te : List Bool) (k : Nat) : List Bool := (List.range r.length).map fun i => r.getD i false || (decide (i < k) && te.getD i false)
def orL (r te : List Bool) : List Bool := orP r te r.length

theorem orP_len (r te : List Bool) (k : Nat) : (orP r te k).length = r.length := by simp [orP]
theorem orL_len (r te : List Bool) : (orL r te).length = r.length := orP_len _ _ _

theorem orP_get {r te : List Bool} {k i : Nat} (h : i < r.length) : (orP r te k)[i]? = some (r[i] || (decide (i < k) && te.getD i false)) := by
  unfold orP
  rw [List.getElem?_map, List.getElem?_range h, Option.map_some, List.getD_eq_getElem?_getD, List.getElem?_eq_getElem h]; rfl

theorem orP_zero (r te : List Bool) : orP r te 0 = r := by
  apply List.ext_getElem?
  intro i
  by_cases h : i < r.length
  · rw [orP_get h, List.getElem?_eq_getElem h]; simp
  · rw [List.getElem?_eq_none (by rw [orP_len]; omega), List.getElem?_eq_none (by omega)]

theorem orP_succ {r te : List Bool} {k : Nat} {v : Bool} (hk : k < r.length) (hv : v = (r[k] || te.getD k false)) : (orP r te k).set k v = orP r te (k + 1) := by
  apply List.ext_getElem?
  intro i
  rw [List.getElem?_set]
  by_cases hi : i < r.length
  · rw [orP_get (k := k + 1) hi]
    by_cases e : k = i
    · subst e
      rw [if_pos rfl, orP_len, if_pos hi, hv, decide_eq_true (Nat.lt_succ_self k), Bool.true_and]
    · rw [if_neg e, orP_get hi]
      have : decide (i < k) = decide (i < k + 1) := by
        rw [decide_eq_decide]; omega
      rw [this]
  · have h2 : (orP r te (k + 1))[i]? = none := List.getElem?_eq_none (by rw [orP_len]; omega)
    have h3 : (orP r te k)[i]? = none := List.getElem?_eq_none (by rw [orP_len]; omega)
    rw [h2, h3]
    have : k ≠ i := by omega
    rw [if_neg this]

theorem orP_at {r te : List Bool} {k : Nat} (hk : k < r.length) : (orP r te k)[k]? = some r[k] := by rw [orP_get hk]; simp

def rowS (t : Nat) (no : List Bool) (fi : List (List Bool)) : List Int → List Bool → List Bool × Bool
  | [], acc => (acc, true)
  | s :: l, acc =>
    if s < (t : Int) then (acc.set s.toNat true, false)
    else if no.getD (s - t).toNat false then rowS t no fi l (orL acc (fi.getD (s - t).toNat [])) else (orL acc (fi.getD (s - t).toNat []), false)

theorem rowS_len (t : Nat) (no : List Bool) (fi : List (List Bool)) : ∀ (l : List Int) (acc : List Bool), (rowS t no fi l acc).1.length = acc.length
  | [], _ => rfl
  | s :: l, acc => by
    unfold rowS
    split
    · simp
    · split
      · rw [rowS_len, orL_len]
      · exact orL_len _ _

abbrev BSt := List Bool × List (List Bool)

def rowT (t : Nat) (s : BSt) (l : List Int) : List Bool × Bool := rowS t s.1 s.2 l (List.replicate t false)
theorem rowT_len (t : Nat) (s : BSt) (l : List Int) : (rowT t s l).1.length = t := by unfold rowT; rw [rowS_len]; simp

def bNo (t : Nat) (s : BSt) (p : Prd) : List Bool := if (rowT t s p.Right).2 then s.1.set p.Left.toNat true else s.1
def bFi (t : Nat) (s : BSt) (p : Prd) (k : Nat) : List (List Bool) := s.2.set p.Left.toNat (orP (s.2.getD p.Left.toNat []) (rowT t s p.Right).1 k)
def bStep (t : Nat) (s : BSt) (p : Prd) : BSt := (bNo t s p, bFi t s p t)
def bRound (t : Nat) (ps : List Prd) (s : BSt) : BSt := ps.foldl (bStep t) s
def bInit (t n : Nat) : BSt := (List.replicate n false, List.replicate n (List.replicate t false))
def bFix (g : Gram) : BSt := it (bRound g.Terms.length g.Prods) (g.Nons.length + g.Nons.length * g.Terms.length + 1) (bInit g.Terms.length g.Nons.length)

structure BInv (t n : Nat) (s : BSt) : Prop where
  no : s.1.length = n
  fi : s.2.length = n
  rows : ∀ r ∈ s.2, r.length = t

theorem BInv.row {t n : Nat} {s : BSt} (h : BInv t n s) {i : Nat} (hi : i < n) : (s.2.getD i []).length = t := by
  have hl : i < s.2.length := by rw [h.fi]; exact hi
  rw [List.getD_eq_getElem?_getD, List.getElem?_eq_getElem hl]
  exact h.rows _ (List.getElem_mem hl)

theorem bInit_inv (t n : Nat) : BInv t n (bInit t n) := ⟨by simp [bInit], by simp [bInit], fun r hr => by
  simp only [bInit, List.mem_replicate] at hr
  rw [hr.2]; simp⟩

theorem bNo_len (t : Nat) (s : BSt) (p : Prd) : (bNo t s p).length = s.1.length := by unfold bNo; split <;> simp

theorem bFi_rows {t n : Nat} {s : BSt} (h : BInv t n s) (p : Prd) (hp : p.Left.toNat < n) (k : Nat) : ∀ r ∈ bFi t s p k, r.length = t := by
  intro r hr
  unfold bFi at hr
  rcases List.mem_or_eq_of_mem_set hr with h2 | h2
  · exact h.rows r h2
  · rw [h2, orP_len]; exact h.row hp

theorem BInv.part {t n : Nat} {s : BSt} (h : BInv t n s) (p : Prd) (hp : p.Left.toNat < n) (k : Nat) : BInv t n (bNo t s p, bFi t s p k) :=
  ⟨by rw [bNo_len]; exact h.no, by simp only [bFi, List.length_set]; exact h.fi, bFi_rows h p hp k⟩

theorem bStep_inv {t n : Nat} {s : BSt} (h : BInv t n s) (p : Prd) (hp : p.Left.toNat < n) : BInv t n (bStep t s p) := h.part p hp t

theorem bRound_inv {t n : Nat} : ∀ (ps : List Prd) (_ : ∀ p ∈ ps, p.Left.toNat < n) (s : BSt), BInv t n s → BInv t n (bRound t ps s)
  | [], _, _, h => h
  | p :: ps, hp, s, h => bRound_inv ps (fun q hq => hp q (List.mem_cons_of_mem _ hq)) (bStep t s p) (bStep_inv h p (hp p (List.mem_cons_self ..)))

/-! ### how much is known -/
def cntF (l : List (List Bool)) : Nat := (l.map cnt).sum
def cntS (s : BSt) : Nat := cnt s.1 + cntF s.2

theorem cntF_set : ∀ (l : List (List Bool)) (i : Nat) (r : List Bool) (h : i < l.length), cntF (l.set i r) + cnt l[i] = cntF l + cnt r
  | [], i, _, h => by simp at h
  | x :: l, 0, r, _ => by simp [cntF]; omega
  | x :: l, i + 1, r, h => by
    have := cntF_set l i r (by simpa using h)
    simp only [cntF, List.set_cons_succ, List.map_cons, List.sum_cons, List.getElem_cons_succ] at this ⊢
    omega

theorem cntF_le : ∀ (l : List (List Bool)) (t : Nat) (_ : ∀ r ∈ l, r.length = t), cntF l ≤ l.length * t
  | [], _, _ => by simp [cntF]
  | x :: l, t, h => by
    have h1 := cntF_le l t (fun r hr => h r (List.mem_cons_of_mem _ hr))
    have h2 := cnt_le x
    rw [h x (List.mem_cons_self ..)] at h2
    simp only [cntF, List.map_cons, List.sum_cons, List.length_cons, Nat.succ_mul] at h1 ⊢
    omega

theorem cntS_le {t n : Nat} {s : BSt} (h : BInv t n s) : cntS s ≤ n + n * t := by
  have h1 := cnt_le s.1
  have h2 := cntF_le s.2 t h.rows
  rw [h.no] at h1
  rw [h.fi] at h2
  unfold cntS; omega

theorem orP_grow {r te : List Bool} {k : Nat} (hk : k < r.length) : orP r te (k + 1) = orP r te k ∨ cnt (orP r te (k + 1)) = cnt (orP r te k) + 1 := by
  have h1 := orP_succ (te := te) hk rfl
  rw [← h1]
  cases hb : r[k] with
  | true =>
    refine .inl ?_
    rw [Bool.true_or]
    exact set_true (by rw [orP_at hk, hb]; simp)
  | false =>
    rw [Bool.false_or]
    cases te.getD k false with
    | true => exact .inr (cnt_set (by rw [orP_at hk, hb]))
    | false =>
      refine .inl ?_
      apply List.ext_getElem?
      intro i
      rw [List.getElem?_set]
      split
      · rename_i e
        subst e
        rw [orP_len, if_pos hk, orP_at hk, hb]
      · rfl

theorem orP_mono (r te : List Bool) : ∀ k, k ≤ r.length → orP r te k = r ∨ cnt r < cnt (orP r te k)
  | 0, _ => .inl (orP_zero r te)
  | k + 1, h => by
    rcases orP_mono r te k (by omega) with h1 | h1 <;> rcases orP_grow (te := te) (show k < r.length by omega) with h2 | h2
    · exact .inl (by rw [h2, h1])
    · exact .inr (by rw [h2, h1]; omega)
    · exact .inr (by rw [h2]; exact h1)
    · exact .inr (by omega)

theorem set_self {α : Type} {l : List α} {i : Nat} {x : α} (h : l[i]? = some x) : l.set i x = l := by
  apply List.ext_getElem?
  intro j
  rw [List.getElem?_set]
  split
  · rename_i e; subst e
    split
    · exact h.symm
    · rename_i h2; rw [List.getElem?_eq_none (by omega)] at h; cases h
  · rfl

theorem bPart_cnt {t n : Nat} {s : BSt} (h : BInv t n s) (p : Prd) (hp : p.Left.toNat < n) {k : Nat} (hk : k ≤ t) : (bNo t s p, bFi t s p k) = s ∨ cntS s < cntS (bNo t s p, bFi t s p k) := by
  have hl : p.Left.toNat < s.2.length := by rw [h.fi]; exact hp
  have hrow : s.2.getD p.Left.toNat [] = s.2[p.Left.toNat] := by rw [List.getD_eq_getElem?_getD, List.getElem?_eq_getElem hl]; rfl
  have hn : bNo t s p = s.1 ∨ cnt s.1 < cnt (bNo t s p) := by
    unfold bNo
    split
    · by_cases hb : s.1[p.Left.toNat]? = some false
      · exact .inr (by rw [cnt_set hb]; omega)
      · exact .inl (set_true hb)
    · exact .inl rfl
  have hf : bFi t s p k = s.2 ∨ cntF s.2 < cntF (bFi t s p k) := by
    have h1 := orP_mono (s.2.getD p.Left.toNat []) (rowT t s p.Right).1 k (by rw [h.row hp]; exact hk)
    have h2 := cntF_set s.2 p.Left.toNat (orP (s.2.getD p.Left.toNat []) (rowT t s p.Right).1 k) hl
    unfold bFi
    rcases h1 with h1 | h1
    · refine .inl ?_
      rw [h1]
      exact set_self (by rw [List.getElem?_eq_getElem hl, hrow])
    · refine .inr ?_
      rw [hrow] at h1 h2 ⊢
      omega
  unfold cntS
  rcases hn with hn | hn <;> rcases hf with hf | hf
  · exact .inl (by rw [hn, hf])
  · refine .inr ?_
    simp only [hn]
    omega
  · refine .inr ?_
    simp only [hf]
    omega
  · refine .inr ?_
    simp only
    omega

theorem bRound_cnt {t n : Nat} : ∀ (ps : List Prd) (_ : ∀ p ∈ ps, p.Left.toNat < n) (s : BSt), BInv t n s → bRound t ps s = s ∨ cntS s < cntS (bRound t ps s)
  | [], _, _, _ => .inl rfl
  | p :: ps, hp, s, h => by
    have h1 : bStep t s p = s ∨ cntS s < cntS (bStep t s p) := bPart_cnt h p (hp p (List.mem_cons_self ..)) (Nat.le_refl t)
    have h2 := bRound_cnt ps (fun q hq => hp q (List.mem_cons_of_mem _ hq)) (bStep t s p) (bStep_inv h p (hp p (List.mem_cons_self ..)))
    show bRound t ps (bStep t s p) = s ∨ _ < cntS (bRound t ps (bStep t s p))
    rcases h1 with h1 | h1
    · rw [h1] at h2 ⊢; exact h2
    · rcases h2 with h2 | h2
      · exact .inr (by rw [h2]; exact h1)
      · exact .inr (by omega)

theorem bFix_unique {g : Gram} (hp : ∀ p ∈ g.Prods, p.Left.toNat < g.Nons.length) {m : Nat}
    (hm : bRound g.Terms.length g.Prods (it (bRound g.Terms.length g.Prods) m (bInit g.Terms.length g.Nons.length)) = it (bRound g.Terms.length g.Prods) m (bInit g.Terms.length g.Nons.length)) :
    it (bRound g.Terms.length g.Prods) m (bInit g.Terms.length g.Nons.length) = bFix g :=
  it_unique (I := BInv g.Terms.length g.Nons.length) (μ := cntS) (N := g.Nons.length + g.Nons.length * g.Terms.length) (fun x hx => bRound_inv _ hp x hx)
    (fun x hx hne => by rcases bRound_cnt g.Prods hp x hx with h | h; exact absurd h hne; exact h) (fun x hx => cntS_le hx) (bInit_inv _ _) (Nat.lt_succ_self _) hm

theorem bFix_fix {g : Gram} (hp : ∀ p ∈ g.Prods, p.Left.toNat < g.Nons.length) : bRound g.Terms.length g.Prods (bFix g) = bFix g :=
  it_stable (I := BInv g.Terms.length g.Nons.length) (μ := cntS) (N := g.Nons.length + g.Nons.length * g.Terms.length) (fun x hx => bRound_inv _ hp x hx)
    (fun x hx hne => by rcases bRound_cnt g.Prods hp x hx with h | h; exact absurd h hne; exact h) (fun x hx => cntS_le hx) (bInit_inv _ _) (Nat.lt_succ_self _)

theorem bFix_inv {g : Gram} (hp : ∀ p ∈ g.Prods, p.Left.toNat < g.Nons.length) : BInv g.Terms.length g.Nons.length (bFix g) :=
  it_inv (I := BInv g.Terms.length g.Nons.length) (fun x hx => bRound_inv _ hp x hx) (bInit_inv _ _) _

/-! ### one production, term by term -/
section
variable {t n : Nat} {s : BSt} (h : BInv t n s) (p : Prd) (hp : p.Left.toNat < n)
include h hp
theorem bFi_get (k : Nat) : (bFi t s p k)[p.Left.toNat]? = some (orP (s.2.getD p.Left.toNat []) (rowT t s p.Right).1 k) := by
  unfold bFi
  rw [List.getElem?_set_self (by rw [h.fi]; exact hp)]

theorem bFi_next_t {j : Nat} (hj : j < t) (hte : (rowT t s p.Right).1.getD j false = true) :
    (bFi t s p j).set p.Left.toNat ((orP (s.2.getD p.Left.toNat []) (rowT t s p.Right).1 j).set j true) = bFi t s p (j + 1) := by
  unfold bFi
  rw [List.set_set, orP_succ (by rw [h.row hp]; exact hj) (by rw [hte, Bool.or_true])]

theorem bFi_next_f {j : Nat} (hj : j < t) (hte : (rowT t s p.Right).1.getD j false = false ∨ (s.2.getD p.Left.toNat []).getD j false = true) : bFi t s p (j + 1) = bFi t s p j := by
  have hjl : j < (s.2.getD p.Left.toNat []).length := by rw [h.row hp]; exact hj
  have hg : (s.2.getD p.Left.toNat []).getD j false = (s.2.getD p.Left.toNat [])[j] := by rw [List.getD_eq_getElem?_getD, List.getElem?_eq_getElem hjl]; rfl
  unfold bFi
  congr 1
  rw [← orP_succ hjl rfl]
  apply set_self
  rw [orP_at hjl]
  rw [hg] at hte
  congr 1
  rcases hte with h1 | h1
  · rw [h1, Bool.or_false]
  · rw [h1, Bool.true_or]

theorem bFi_next_n {j : Nat} (hj : j < t) (hte : (rowT t s p.Right).1.getD j false = true) (hr : (s.2.getD p.Left.toNat []).getD j false = false) (no : List Bool) :
    cntS (no, bFi t s p (j + 1)) = cntS (no, bFi t s p j) + 1 := by
  have hjl : j < (s.2.getD p.Left.toNat []).length := by rw [h.row hp]; exact hj
  have hg : (s.2.getD p.Left.toNat []).getD j false = (s.2.getD p.Left.toNat [])[j] := by rw [List.getD_eq_getElem?_getD, List.getElem?_eq_getElem hjl]; rfl
  rw [← bFi_next_t h p hp hj hte]
  have hl : p.Left.toNat < (bFi t s p j).length := by unfold bFi; rw [List.length_set, h.fi]; exact hp
  have h1 := cntF_set (bFi t s p j) p.Left.toNat ((orP (s.2.getD p.Left.toNat []) (rowT t s p.Right).1 j).set j true) hl
  have h2 : (bFi t s p j)[p.Left.toNat] = orP (s.2.getD p.Left.toNat []) (rowT t s p.Right).1 j := by
    have := bFi_get h p hp j
    rw [List.getElem?_eq_getElem hl] at this
    exact Option.some.inj this
  have h3 : cnt ((orP (s.2.getD p.Left.toNat []) (rowT t s p.Right).1 j).set j true) = cnt (orP (s.2.getD p.Left.toNat []) (rowT t s p.Right).1 j) + 1 :=
    cnt_set (by rw [orP_at hjl, ← hg, hr])
  rw [h2] at h1
  unfold cntS
  simp only
  omega

theorem bNo_new (hnt : (rowT t s p.Right).2 = true) (hb : s.1.getD p.Left.toNat false = false) : cntS (bNo t s p, s.2) = cntS s + 1 := by
  have hl : p.Left.toNat < s.1.length := by rw [h.no]; exact hp
  have : cnt (s.1.set p.Left.toNat true) = cnt s.1 + 1 := cnt_set (by
    rw [List.getElem?_eq_getElem hl]
    rw [List.getD_eq_getElem?_getD, List.getElem?_eq_getElem hl] at hb
    rw [← hb]; rfl)
  unfold bNo cntS
  rw [if_pos hnt]
  simp only
  omega

theorem bNo_old (hb : (rowT t s p.Right).2 = false ∨ s.1.getD p.Left.toNat false = true) : bNo t s p = s.1 := by
  have hl : p.Left.toNat < s.1.length := by rw [h.no]; exact hp
  unfold bNo
  rcases hb with hb | hb
  · rw [hb]; rfl
  · split
    · apply set_self
      rw [List.getD_eq_getElem?_getD, List.getElem?_eq_getElem hl] at hb
      rw [List.getElem?_eq_getElem hl, ← hb]; rfl
    · rfl

theorem bFi_zero : bFi t s p 0 = s.2 := by
  have hl : p.Left.toNat < s.2.length := by rw [h.fi]; exact hp
  unfold bFi
  rw [orP_zero]
  exact set_self (by rw [List.getD_eq_getElem?_getD, List.getElem?_eq_getElem hl]; rfl)
end

theorem bRound_take {t : Nat} {ps : List Prd} {i : Nat} (hlt : i < ps.length) (s : BSt) : bRound t (ps.take (i + 1)) s = bStep t (bRound t (ps.take i) s) ps[i] := by
  rw [List.take_succ_eq_append_getElem hlt, bRound, List.foldl_append]; rfl

end Go.Proofs.Ytbfjnldneemmiab
