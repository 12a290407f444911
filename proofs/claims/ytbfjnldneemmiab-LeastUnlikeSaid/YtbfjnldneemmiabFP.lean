/-
  Plain: when a grammar may be; which of its names are of use.
-/
import Derived.Test.YtbfjnldneemmiabData
namespace Go.Proofs.Ytbfjnldneemmiab
set_option linter.all false

def mayBind (n k : Int) : Bool := decide (k ≥ 0) && (decide (k ≤ 3) && (decide (n ≥ 0) && (decide (n ≤ 128) && ((n == 0) == (k == 0)))))
def limitsB (g : Gram) : Bool := decide (g.Terms.length > 48) || (decide (g.Nons.length > 48) || (decide (g.Prods.length > 128) || g.Prods.any fun p => decide (p.Right.length > 12)))

/-! ### rounds -/
def it {α : Type} (f : α → α) : Nat → α → α
  | 0, x => x
  | n + 1, x => it f n (f x)

theorem it_succ {α : Type} (f : α → α) : ∀ (n : Nat) (x : α), it f (n + 1) x = f (it f n x)
  | 0, _ => rfl
  | n + 1, x => it_succ f n (f x)

theorem it_add {α : Type} (f : α → α) (m : Nat) : ∀ (n : Nat) (x : α), it f (m + n) x = it f m (it f n x)
  | 0, _ => rfl
  | n + 1, x => it_add f m n (f x)

theorem it_of_fix {α : Type} {f : α → α} {x : α} (h : f x = x) : ∀ n, it f n x = x
  | 0 => rfl
  | n + 1 => by rw [it, h]; exact it_of_fix h n

section
variable {α : Type} {f : α → α} {I : α → Prop} {μ : α → Nat} {N : Nat} (hI : ∀ x, I x → I (f x)) (hμ : ∀ x, I x → f x ≠ x → μ x < μ (f x)) (hN : ∀ x, I x → μ x ≤ N)
include hI
theorem it_inv {x : α} (hx : I x) : ∀ n, I (it f n x)
  | 0 => hx
  | n + 1 => by rw [it_succ]; exact hI _ (it_inv hx n)
include hμ
theorem it_grow {x : α} (hx : I x) (n : Nat) : f (it f n x) = it f n x ∨ n ≤ μ (it f n x) := by
  induction n with
  | zero => exact .inr (Nat.zero_le _)
  | succ n ih =>
    rw [it_succ]
    rcases ih with h | h
    · exact .inl (by rw [h, h])
    · by_cases h2 : f (it f n x) = it f n x
      · exact .inl (by rw [h2, h2])
      · have := hμ _ (it_inv hI hx n) h2
        exact .inr (by omega)
include hN
theorem it_stable {x : α} (hx : I x) {n : Nat} (hn : N < n) : f (it f n x) = it f n x := by
  rcases it_grow hI hμ hx n with h | h
  · exact h
  · have := hN _ (it_inv hI hx n); omega
theorem it_unique {x : α} (hx : I x) {n m : Nat} (hn : N < n) (hm : f (it f m x) = it f m x) : it f m x = it f n x := by
  have hs := it_stable hI hμ hN hx hn
  rcases Nat.le_total m n with h | h
  · obtain ⟨d, rfl⟩ := Nat.exists_eq_add_of_le h
    rw [Nat.add_comm, it_add, it_of_fix hm]
  · obtain ⟨d, rfl⟩ := Nat.exists_eq_add_of_le h
    rw [Nat.add_comm, it_add, it_of_fix hs]
end

/-! ### names of use -/
def okSym (t : Nat) (use : List Bool) (s : Int) : Bool := decide (s < t) || use.getD (s - t).toNat false
def uStep (t : Nat) (use : List Bool) (p : Prd) : List Bool := if p.Right.all (okSym t use) then use.set p.Left.toNat true else use
def uRound (t : Nat) (ps : List Prd) (use : List Bool) : List Bool := ps.foldl (uStep t) use
def uFix (g : Gram) : List Bool := it (uRound g.Terms.length g.Prods) (g.Nons.length + 1) (List.replicate g.Nons.length false)

def cnt (l : List Bool) : Nat := l.count true

theorem cnt_le (l : List Bool) : cnt l ≤ l.length := List.count_le_length

theorem cnt_set {l : List Bool} {i : Nat} (h : l[i]? = some false) : cnt (l.set i true) = cnt l + 1 := by
  induction l generalizing i with
  | nil => simp at h
  | cons b l ih =>
    cases i with
    | zero => simp at h; subst h; simp [cnt]
    | succ i => simp at h; have := ih h; simp [cnt, List.count_cons] at this ⊢; omega

theorem set_true {l : List Bool} {i : Nat} (h : l[i]? ≠ some false) : l.set i true = l := by
  apply List.ext_getElem?
  intro j
  rw [List.getElem?_set]
  split
  · rename_i hij; subst hij
    split
    · rename_i hlt; rw [List.getElem?_eq_getElem hlt] at h ⊢; cases hb : l[i] <;> simp_all
    · rename_i hlt; simp at hlt; simp [hlt]
  · rfl

theorem uStep_len (t : Nat) (use : List Bool) (p : Prd) : (uStep t use p).length = use.length := by
  unfold uStep; split <;> simp
theorem uRound_len (t : Nat) (ps : List Prd) : ∀ use : List Bool, (uRound t ps use).length = use.length := by
  induction ps with
  | nil => intro _; rfl
  | cons p ps ih => intro use; show (uRound t ps (uStep t use p)).length = _; rw [ih, uStep_len]

theorem uStep_cnt (t : Nat) (use : List Bool) (p : Prd) : uStep t use p = use ∨ cnt (uStep t use p) = cnt use + 1 := by
  unfold uStep
  split
  · by_cases h : use[p.Left.toNat]? = some false
    · exact .inr (cnt_set h)
    · exact .inl (set_true h)
  · exact .inl rfl

theorem uRound_cnt (t : Nat) (ps : List Prd) : ∀ use : List Bool, uRound t ps use = use ∨ cnt use < cnt (uRound t ps use) := by
  induction ps with
  | nil => intro _; exact .inl rfl
  | cons p ps ih =>
    intro use
    show uRound t ps (uStep t use p) = use ∨ _ < cnt (uRound t ps (uStep t use p))
    rcases uStep_cnt t use p with h | h
    · rw [h]; exact ih use
    · rcases ih (uStep t use p) with h2 | h2
      · rw [h2]; exact .inr (by omega)
      · exact .inr (by omega)

theorem uFix_unique {g : Gram} {m : Nat} (hm : uRound g.Terms.length g.Prods (it (uRound g.Terms.length g.Prods) m (List.replicate g.Nons.length false)) = it (uRound g.Terms.length g.Prods) m (List.replicate g.Nons.length false)) :
    it (uRound g.Terms.length g.Prods) m (List.replicate g.Nons.length false) = uFix g :=
  it_unique (I := fun l => l.length = g.Nons.length) (μ := cnt) (N := g.Nons.length) (fun x hx => by rw [uRound_len]; exact hx)
    (fun x _ hne => by rcases uRound_cnt g.Terms.length g.Prods x with h | h; exact absurd h hne; exact h) (fun x hx => hx ▸ cnt_le x) (by simp) (Nat.lt_succ_self _) hm

theorem uFix_fix (g : Gram) : uRound g.Terms.length g.Prods (uFix g) = uFix g :=
  it_stable (I := fun l => l.length = g.Nons.length) (μ := cnt) (N := g.Nons.length) (fun x hx => by rw [uRound_len]; exact hx)
    (fun x _ hne => by rcases uRound_cnt g.Terms.length g.Prods x with h | h; exact absurd h hne; exact h) (fun x hx => hx ▸ cnt_le x) (by simp) (Nat.lt_succ_self _)

/-! ### which grammars may be -/
def symOk (t n : Nat) (s : Int) : Bool := decide (1 ≤ s) && (decide (s < (t : Int) + n) && decide (s ≠ t))
def prodOk (t n i : Nat) (p : Prd) : Bool :=
  decide (0 ≤ p.Left) && (decide (p.Left < n) && ((decide (p.Left = 0) == decide (i = 0)) && (mayBind p.L.N p.L.Kind && p.Right.all (symOk t n))))
def prodsOk (t n : Nat) : Nat → List Prd → Bool
  | _, [] => true
  | i, p :: ps => prodOk t n i p && prodsOk t n (i + 1) ps
def startOk (t : Nat) : List Prd → Bool
  | p :: _ => match p.Right with
    | [s] => decide ((t : Int) ≤ s)
    | _ => false
  | [] => false

def wf0 (g : Gram) : Bool :=
  decide (1 ≤ g.Terms.length) && (decide (2 ≤ g.Nons.length) && (decide (g.Levels.length = g.Terms.length) && (decide (0 < g.Prods.length) && (g.Levels.all (fun l => mayBind l.N l.Kind) &&
    (prodsOk g.Terms.length g.Nons.length 0 g.Prods && startOk g.Terms.length g.Prods)))))
def wf (g : Gram) : Bool := wf0 g && (uFix g).all id
def checkE (g : Gram) : Int := if limitsB g then 5 else if wf g then 0 else 2

theorem prodsOk_iff (t n : Nat) : ∀ (ps : List Prd) (k : Nat), prodsOk t n k ps = true ↔ ∀ i (h : i < ps.length), prodOk t n (k + i) ps[i] = true
  | [], k => by simp [prodsOk]
  | p :: ps, k => by
    simp only [prodsOk, Bool.and_eq_true, prodsOk_iff t n ps (k + 1)]
    constructor
    · rintro ⟨h1, h2⟩ i hi
      cases i with
      | zero => simpa using h1
      | succ i => have := h2 i (by simpa using hi); rw [show k + 1 + i = k + (i + 1) from by omega] at this; simpa using this
    · intro h
      refine ⟨by have := h 0 (by simp); rw [Nat.add_zero] at this; exact this, fun i hi => ?_⟩
      have := h (i + 1) (by simpa using hi)
      rw [show k + 1 + i = k + (i + 1) from by omega]; simpa using this

structure Wf0 (g : Gram) : Prop where
  t : 1 ≤ g.Terms.length
  n : 2 ≤ g.Nons.length
  lev : g.Levels.length = g.Terms.length
  prods : 0 < g.Prods.length
  bind : ∀ l ∈ g.Levels, mayBind l.N l.Kind = true
  prod : ∀ i (h : i < g.Prods.length), prodOk g.Terms.length g.Nons.length i g.Prods[i] = true
  start : startOk g.Terms.length g.Prods = true

theorem wf0_iff (g : Gram) : wf0 g = true ↔ Wf0 g := by
  simp only [wf0, Bool.and_eq_true, decide_eq_true_eq, List.all_eq_true, prodsOk_iff, Nat.zero_add]
  exact ⟨fun ⟨a, b, c, d, e, f, h⟩ => ⟨a, b, c, d, e, f, h⟩, fun ⟨a, b, c, d, e, f, h⟩ => ⟨a, b, c, d, e, f, h⟩⟩

theorem checkE_5 {g : Gram} (h : limitsB g = true) : checkE g = 5 := by unfold checkE; rw [if_pos h]
theorem checkE_2 {g : Gram} (h : limitsB g = false) (h2 : ¬ Wf0 g) : checkE g = 2 := by
  unfold checkE wf
  have : wf0 g = false := by
    cases hw : wf0 g with
    | true => exact absurd ((wf0_iff g).1 hw) h2
    | false => rfl
  simp [h, this]
theorem checkE_u {g : Gram} (h : limitsB g = false) (h2 : Wf0 g) : checkE g = if (uFix g).all id then 0 else 2 := by
  unfold checkE wf
  rw [(wf0_iff g).2 h2]; simp [h]

structure ProdOk (t n i : Nat) (p : Prd) : Prop where
  lo : 0 ≤ p.Left
  hi : p.Left < n
  zero : p.Left = 0 ↔ i = 0
  bind : mayBind p.L.N p.L.Kind = true
  right : ∀ s ∈ p.Right, 1 ≤ s ∧ s < (t : Int) + n ∧ s ≠ t

theorem prodOk_iff (t n i : Nat) (p : Prd) : prodOk t n i p = true ↔ ProdOk t n i p := by
  simp only [prodOk, symOk, Bool.and_eq_true, decide_eq_true_eq, List.all_eq_true, beq_iff_eq, decide_eq_decide]
  exact ⟨fun ⟨a, b, c, d, e⟩ => ⟨a, b, c, d, e⟩, fun ⟨a, b, c, d, e⟩ => ⟨a, b, c, d, e⟩⟩

theorem startOk_iff (t : Nat) (ps : List Prd) : startOk t ps = true ↔ ∃ (h : 0 < ps.length) (h2 : ps[0].Right.length = 1), (t : Int) ≤ ps[0].Right[0] := by
  cases ps with
  | nil => simp [startOk]
  | cons p ps =>
    simp only [startOk]
    split
    · rename_i s hs; simp [hs]
    · rename_i hs
      constructor
      · intro h; cases h
      · rintro ⟨_, h2, _⟩
        simp at h2
        obtain ⟨s, hs'⟩ := List.length_eq_one_iff.1 h2
        exact absurd hs' (hs s)

end Go.Proofs.Ytbfjnldneemmiab
