/-
  Plain: the long grammar of LrKnown, and what is found of it.
-/
import Derived.Test.YtcbaebkkdkdaaaaDoorCQPB

namespace Go.Proofs.YtcbaebkkdkdaaaaDoor
set_option linter.all false
open Go.Proofs.YtcbaebkkdkdaaaaDoor.E

def longR (k m : Nat) : List Int := (List.range m).map fun j => ((1 + (k + j) % 47 : Nat) : Int)
def longP (k : Nat) : Prd := ⟨1, longR k 12, ⟨0, 0⟩⟩
def longPs (n : Nat) : List Prd := ⟨0, [49], ⟨0, 0⟩⟩ :: (List.range n).map longP
def longG (n : Nat) : Gram := ⟨List.replicate 48 (⟨#[]⟩ : ByteArray), List.replicate 48 ⟨0, 0⟩, [], List.replicate 2 (⟨#[]⟩ : ByteArray), longPs n⟩

theorem closedP_one {g : Gram} {x : Itm} (h : beh g x < g.Terms.length) : closedP g [x] = [x] := by
  have ho : ∀ done, openI g done x = false := fun done => by unfold openI; rw [decide_eq_false (by omega), Bool.false_and]
  have hs : sortI [x] = [x] := rfl
  unfold closedP
  rw [hs]
  unfold clF
  have : [x].find? (openI g (List.replicate g.Nons.length false)) = none := by
    rw [List.find?_eq_none]
    intro y hy
    rw [List.mem_singleton] at hy
    subst hy
    rw [ho]; simp
  rw [this]

theorem symK_one {g : Gram} {x : Itm} {ks : List (List Itm)} : ∀ m : Nat, symK g [x] ks m = if 0 ≤ beh g x ∧ beh g x < m then addK ks [⟨x.Prod, x.Dot + 1⟩] else ks
  | 0 => by rw [if_neg (by omega)]; rfl
  | m + 1 => by
    rw [symK_succ, symK_one m]
    have hg : goI g [x] (m : Nat) = if beh g x = (m : Int) then [⟨x.Prod, x.Dot + 1⟩] else [] := by
      unfold goI
      by_cases h : beh g x = (m : Int)
      · rw [if_pos h]; simp [h]
      · rw [if_neg h]; simp [h]
    have h0 : ∀ l, addK l [] = l := fun l => by unfold addK; rw [if_pos (.inl rfl)]
    rw [hg]
    by_cases h : beh g x = (m : Int)
    · rw [if_pos h, if_neg (by omega), if_pos (by omega)]
    · rw [if_neg h, h0]
      by_cases h2 : 0 ≤ beh g x ∧ beh g x < m
      · rw [if_pos h2, if_pos (by omega)]
      · rw [if_neg h2, if_neg (by omega)]

theorem longR_get {k m j : Nat} (h : j < m) : (longR k m).getD j 0 = ((1 + (k + j) % 47 : Nat) : Int) := by
  unfold longR
  rw [List.getD_eq_getElem?_getD, List.getElem?_map, List.getElem?_range h]; rfl

theorem long_prd {n p : Nat} (h1 : 1 ≤ p) (h2 : p ≤ n) : prd (longG n) p = longP (p - 1) := by
  obtain ⟨q, rfl⟩ : ∃ q, p = q + 1 := ⟨p - 1, by omega⟩
  unfold prd longG longPs
  simp only [Int.toNat_natCast]
  rw [List.getD_eq_getElem?_getD, List.getElem?_cons_succ, List.getElem?_map, List.getElem?_range (by omega)]
  rfl

theorem long_beh {n p d : Nat} (h1 : 1 ≤ p) (h2 : p ≤ n) (hd : d < 12) : beh (longG n) ⟨p, d⟩ = ((1 + (p - 1 + d) % 47 : Nat) : Int) := by
  unfold beh
  simp only
  rw [long_prd h1 h2, if_pos (by show (d : Int) < ((longR (p - 1) 12).length : Nat); unfold longR; simp; omega)]
  exact longR_get hd

theorem long_behE {n p : Nat} (h1 : 1 ≤ p) (h2 : p ≤ n) : beh (longG n) ⟨p, (12 : Nat)⟩ = -1 := by
  unfold beh
  simp only
  rw [long_prd h1 h2, if_neg (by show ¬ ((12 : Nat) : Int) < ((longR (p - 1) 12).length : Nat); unfold longR; simp)]

theorem long_beh0 (n : Nat) : beh (longG n) ⟨0, 1⟩ = -1 := rfl

/-! ### the states, by their numbers -/
def eP (n i : Nat) : Nat := if i ≤ n then i else if i = n + 1 then 0 else (i - (n + 2)) % n + 1
def eD (n i : Nat) : Nat := if i = 0 then 0 else if i ≤ n + 1 then 1 else (i - (n + 2)) / n + 2
def eI (n i : Nat) : Itm := ⟨(eP n i : Nat), (eD n i : Nat)⟩
def eK (n m : Nat) : List (List Itm) := (List.range m).map fun i => [eI n i]
def eL (n i : Nat) : Nat := if i ≤ n + 1 then n + 1 + i else min (i + n) (2 + 12 * n)

theorem eK_len (n m : Nat) : (eK n m).length = m := by unfold eK; simp
theorem eK_get {n m i : Nat} (h : i < m) : (eK n m)[i]? = some [eI n i] := by unfold eK; rw [List.getElem?_map, List.getElem?_range h]; rfl
theorem eK_succ (n m : Nat) : eK n (m + 1) = eK n m ++ [[eI n m]] := by unfold eK; rw [List.range_succ, List.map_append]; rfl

theorem e_inj {n i j : Nat} (hn : n = 39 ∨ n = 47) (h : eI n i = eI n j) : i = j := by
  unfold eI at h
  simp only [Itm.mk.injEq] at h
  have hp : eP n i = eP n j := by omega
  have hd : eD n i = eD n j := by omega
  unfold eP at hp
  unfold eD at hd
  rcases hn with rfl | rfl <;> (repeat' (first | split at hp | split at hd)) <;> omega

theorem e_new {n m : Nat} (hn : n = 39 ∨ n = 47) : addK (eK n m) [eI n m] = eK n (m + 1) := by
  unfold addK
  rw [if_neg, eK_succ]
  rintro (h | h)
  · cases h
  · unfold eK at h
    obtain ⟨i, hi, e⟩ := List.mem_map.1 h
    rw [List.mem_range] at hi
    have := e_inj hn (List.cons.inj e).1
    omega

set_option maxRecDepth 100000
def chkE (n i : Nat) : Bool := decide (i = 0) || decide (i = n + 1) || (decide (1 ≤ eP n i) && decide (eP n i ≤ n) && decide (eD n i ≤ 12) &&
  (if eD n i = 12 then decide (eL n (i + 1) = eL n i) else decide (eL n (i + 1) = eL n i + 1) && decide (eP n (eL n i) = eP n i) && decide (eD n (eL n i) = eD n i + 1)))
theorem chkE_all : ∀ n, n = 39 ∨ n = 47 → (List.range (2 + 12 * n)).all (chkE n) = true := by
  rintro n (rfl | rfl) <;> decide +kernel

theorem e_next : ∀ n, n = 39 ∨ n = 47 → ∀ i, i < 2 + 12 * n → 1 ≤ i → i ≠ n + 1 → 1 ≤ eP n i ∧ eP n i ≤ n ∧ eD n i ≤ 12 ∧ (eD n i = 12 → eL n (i + 1) = eL n i) ∧
    (eD n i ≠ 12 → eL n (i + 1) = eL n i + 1 ∧ eP n (eL n i) = eP n i ∧ eD n (eL n i) = eD n i + 1) := by
  intro n hn i hi h1 h2
  have h := List.all_eq_true.1 (chkE_all n hn) i (List.mem_range.2 hi)
  unfold chkE at h
  rw [decide_eq_false (p := i = 0) (by omega), decide_eq_false (p := i = n + 1) h2, Bool.false_or, Bool.false_or] at h
  simp only [Bool.and_eq_true, decide_eq_true_eq] at h
  obtain ⟨⟨⟨a, b⟩, c⟩, d⟩ := h
  refine ⟨a, b, c, fun e => ?_, fun e => ?_⟩
  · rw [if_pos e] at d; exact of_decide_eq_true d
  · rw [if_neg e] at d
    simp only [Bool.and_eq_true, decide_eq_true_eq] at d
    exact ⟨d.1.1, d.1.2, d.2⟩

/-- One round. -/
theorem e_step {n i : Nat} (hn : n = 39 ∨ n = 47) (h1 : 1 ≤ i) (h2 : i < 2 + 12 * n) : symK (longG n) (closedP (longG n) [eI n i]) (eK n (eL n i)) 50 = eK n (eL n (i + 1)) := by
  have hT : (longG n).Terms.length = 48 := rfl
  by_cases hi : i = n + 1
  · have hx : eI n i = ⟨0, 1⟩ := by subst hi; unfold eI eP eD; rcases hn with rfl | rfl <;> rfl
    have hl : eL n (i + 1) = eL n i := by unfold eL; rcases hn with rfl | rfl <;> (subst hi; rfl)
    rw [hx, closedP_one (by rw [long_beh0]; omega), symK_one, if_neg (by rw [long_beh0]; omega), hl]
  · obtain ⟨hp1, hp2, hd, ha, hb⟩ := e_next n hn i h2 h1 hi
    by_cases h12 : eD n i = 12
    · have hx : beh (longG n) (eI n i) = -1 := by unfold eI; rw [h12]; exact long_behE hp1 hp2
      rw [closedP_one (by rw [hx]; omega), symK_one, if_neg (by rw [hx]; omega), ha h12]
    · have hx : beh (longG n) (eI n i) = ((1 + (eP n i - 1 + eD n i) % 47 : Nat) : Int) := long_beh hp1 hp2 (by omega)
      obtain ⟨l1, l2, l3⟩ := hb h12
      have hm : (⟨(eI n i).Prod, (eI n i).Dot + 1⟩ : Itm) = eI n (eL n i) := by
        unfold eI; rw [l2, l3]; simp
      have hlt : (eP n i - 1 + eD n i) % 47 < 47 := Nat.mod_lt _ (by decide)
      rw [closedP_one (by rw [hx]; omega), symK_one, if_pos (by rw [hx]; omega), hm, e_new hn, l1]

theorem e_first : ∀ n, n = 39 ∨ n = 47 → symK (longG n) (closedP (longG n) [⟨0, 0⟩]) [[⟨0, 0⟩]] 50 = eK n (eL n 1) := by
  rintro n (rfl | rfl) <;> decide +kernel

theorem e_none : ∀ (f i : Nat), 1 ≤ i → eL 47 i ≤ 512 → lrF (longG 47) f i (eK 47 (eL 47 i)) = none
  | 0, _, _, _ => rfl
  | f + 1, i, h1, h2 => by
    have hlt : i < eL 47 i ∧ i < 2 + 12 * 47 := by unfold eL at h2 ⊢; split at h2 <;> (first | rw [if_pos (by omega)] | rw [if_neg (by omega)]) <;> omega
    unfold lrF
    rw [eK_get hlt.1]
    simp only
    rw [show (longG 47).Terms.length + (longG 47).Nons.length = 50 from rfl, e_step (.inr rfl) h1 hlt.2, eK_len]
    split
    · rfl
    · exact e_none f (i + 1) (by omega) (by omega)

theorem e_some : ∀ (f i : Nat), 1 ≤ i → i ≤ 470 → 470 < f + i → lrF (longG 39) f i (eK 39 (eL 39 i)) = some (eK 39 470)
  | 0, _, _, h, h2 => by omega
  | f + 1, i, h1, h2, h3 => by
    unfold lrF
    by_cases hi : i = 470
    · subst hi
      have : eL 39 470 = 470 := rfl
      rw [this, List.getElem?_eq_none (by rw [eK_len]; exact Nat.le_refl _)]
    · have hlt : i < eL 39 i := by unfold eL; split <;> omega
      have hle : eL 39 (i + 1) ≤ 470 := by unfold eL; split <;> omega
      rw [eK_get hlt]
      simp only
      rw [show (longG 39).Terms.length + (longG 39).Nons.length = 50 from rfl, e_step (.inl rfl) h1 (by omega), eK_len, if_neg (by omega)]
      exact e_some f (i + 1) (by omega) (by omega) (by omega)

theorem long_check : checkE (longG 47) = 0 := by decide +kernel
theorem long_check2 : checkE (longG 39) = 0 := by decide +kernel

theorem long_k1 : lrK (longG 47) = none := by
  show lrF (longG 47) (513 + 1) 0 [[⟨0, 0⟩]] = none
  unfold lrF
  simp only [List.getElem?_cons_zero]
  rw [show (longG 47).Terms.length + (longG 47).Nons.length = 50 from rfl, e_first 47 (.inr rfl), eK_len, if_neg (by decide)]
  exact e_none 513 1 (Nat.le_refl _) (by decide)

theorem long_k2 : lrK (longG 39) = some (eK 39 470) := by
  show lrF (longG 39) (513 + 1) 0 [[⟨0, 0⟩]] = _
  unfold lrF
  simp only [List.getElem?_cons_zero]
  rw [show (longG 39).Terms.length + (longG 39).Nons.length = 50 from rfl, e_first 39 (.inl rfl), eK_len, if_neg (by decide)]
  exact e_some 513 1 (Nat.le_refl _) (by decide) (by decide)

theorem long_lrE : lrE (longG 47) = 5 := by
  unfold lrE
  rw [if_neg (fun h => h long_check), long_k1]

theorem long_lrE2 : lrE (longG 39) = 0 := by
  unfold lrE
  rw [if_neg (fun h => h long_check2), long_k2]

theorem long_len2 : (lrKs (longG 39)).length = 470 := by
  have h := (lr_fin long_lrE2).2.1
  rw [long_k2, Option.some.injEq] at h
  rw [← h, eK_len]

end Go.Proofs.YtcbaebkkdkdaaaaDoor
