/-
  Plain: the table of states that some text tells apart.
-/
import Derived.Test.YtbfjnldneemmiabP2
import Derived.Test.YtbfjnldneemmiabBP
namespace Go.Proofs.Ytbfjnldneemmiab
set_option linter.all false
open Go.Proofs.Ytbfjnldneemmiab.E

def tb (rows : List (List Bool)) (i j : Nat) : Bool := (rows.getD i []).getD j false
/-- The place of a state in the table. -/
def pl (s : Int) : Nat := (s + 1).toNat
def row0 (m : Mach) (i : Nat) : List Bool := (List.range (m.Next.length + 1)).map fun (j : Nat) => !decide (rl m ((i : Int) - 1) = rl m ((j : Int) - 1))
def tab0 (m : Mach) : List (List Bool) := (List.range (m.Next.length + 1)).map (row0 m)

structure Shape (n : Nat) (rows : List (List Bool)) : Prop where
  len : rows.length = n
  row : ∀ r ∈ rows, r.length = n

theorem Shape.get {n : Nat} {rows : List (List Bool)} (h : Shape n rows) {i : Nat} (hi : i < n) : (rows.getD i []).length = n := by
  rw [List.getD_eq_getElem?_getD, List.getElem?_eq_getElem (by rw [h.len]; exact hi)]
  exact h.row _ (List.getElem_mem _)

/-- One entry more. -/
def tset (rows : List (List Bool)) (i j : Nat) : List (List Bool) := rows.set i ((rows.getD i []).set j true)

theorem tset_shape {n : Nat} {rows : List (List Bool)} (h : Shape n rows) {i : Nat} (hi : i < n) (j : Nat) : Shape n (tset rows i j) := by
  refine ⟨by unfold tset; rw [List.length_set]; exact h.len, fun r hr => ?_⟩
  unfold tset at hr
  rcases List.mem_or_eq_of_mem_set hr with h2 | rfl
  · exact h.row r h2
  · rw [List.length_set]; exact h.get hi

theorem tb_tset {n : Nat} {rows : List (List Bool)} (h : Shape n rows) {i j : Nat} (hi : i < n) (hj : j < n) (a b : Nat) : tb (tset rows i j) a b = if a = i ∧ b = j then true else tb rows a b := by
  unfold tb tset
  by_cases e : i = a
  · subst e
    have h1 : (rows.set i ((rows.getD i []).set j true)).getD i [] = (rows.getD i []).set j true := by
      rw [List.getD_eq_getElem?_getD, List.getElem?_set_self (by rw [h.len]; exact hi)]; rfl
    rw [h1]
    by_cases e2 : j = b
    · subst e2
      rw [if_pos ⟨rfl, rfl⟩, List.getD_eq_getElem?_getD, List.getElem?_set_self (by rw [h.get hi]; exact hj)]; rfl
    · rw [if_neg (fun h => e2 h.2.symm), List.getD_eq_getElem?_getD, List.getElem?_set_ne e2, ← List.getD_eq_getElem?_getD]
  · rw [if_neg (fun h => e h.1.symm)]
    congr 1
    rw [List.getD_eq_getElem?_getD, List.getElem?_set_ne e, ← List.getD_eq_getElem?_getD]

theorem cnt_tset {n : Nat} {rows : List (List Bool)} (h : Shape n rows) {i j : Nat} (hi : i < n) (hj : j < n) (hf : tb rows i j = false) : cntF (tset rows i j) = cntF rows + 1 := by
  have hil : i < rows.length := by rw [h.len]; exact hi
  have e : rows.getD i [] = rows[i] := by rw [List.getD_eq_getElem?_getD, List.getElem?_eq_getElem hil]; rfl
  have h1 := cntF_set rows i ((rows.getD i []).set j true) hil
  have h2 : cnt ((rows.getD i []).set j true) = cnt (rows.getD i []) + 1 := by
    refine cnt_set ?_
    unfold tb at hf
    rw [List.getD_eq_getElem?_getD] at hf
    rw [List.getElem?_eq_getElem (by rw [h.get hi]; exact hj)] at hf ⊢
    simp only [Option.getD_some] at hf
    rw [hf]
  rw [h2, e] at h1
  unfold tset
  rw [e] at *
  omega

theorem cnt_max {n : Nat} {rows : List (List Bool)} (h : Shape n rows) : cntF rows ≤ n * n := by
  have := cntF_le rows n h.row
  rwa [h.len] at this

structure TInv (m : Mach) (rows : List (List Bool)) : Prop where
  shape : Shape (m.Next.length + 1) rows
  sound : ∀ s t, St m s → St m t → tb rows (pl s) (pl t) = true → ¬ Eqv m s t
  base : ∀ s t, St m s → St m t → rl m s ≠ rl m t → tb rows (pl s) (pl t) = true

theorem pl_lt {m : Mach} {s : Int} (h : St m s) : pl s < m.Next.length + 1 := by have := h.1; have := h.2; unfold pl; omega
theorem pl_at {i : Nat} : pl ((i : Int) - 1) = i := by unfold pl; omega
theorem st_at {m : Mach} {i : Nat} (h : i < m.Next.length + 1) : St m ((i : Int) - 1) := ⟨by omega, by omega⟩
theorem pl_inj {m : Mach} {s t : Int} (hs : St m s) (ht : St m t) (h : pl s = pl t) : s = t := by
  have := hs.1; have := ht.1; unfold pl at h; omega

theorem tab0_get {m : Mach} {s t : Int} (hs : St m s) (ht : St m t) : tb (tab0 m) (pl s) (pl t) = !decide (rl m s = rl m t) := by
  have h1 := pl_lt hs
  have h2 := pl_lt ht
  have h3 : (tab0 m).getD (pl s) [] = row0 m (pl s) := by
    unfold tab0
    rw [List.getD_eq_getElem?_getD, List.getElem?_map, List.getElem?_range h1]; rfl
  unfold tb
  rw [h3]
  unfold row0
  rw [List.getD_eq_getElem?_getD, List.getElem?_map, List.getElem?_range h2]
  simp only [Option.map_some, Option.getD_some]
  have e1 : ((pl s : Nat) : Int) - 1 = s := by have := hs.1; unfold pl; omega
  have e2 : ((pl t : Nat) : Int) - 1 = t := by have := ht.1; unfold pl; omega
  rw [e1, e2]

theorem tab0_inv (m : Mach) : TInv m (tab0 m) where
  shape := ⟨by unfold tab0; rw [List.length_map, List.length_range], fun r hr => by
    unfold tab0 at hr
    obtain ⟨i, _, rfl⟩ := List.mem_map.1 hr
    unfold row0; rw [List.length_map, List.length_range]⟩
  sound s t hs ht h e := by
    rw [tab0_get hs ht, e.rl] at h
    simp at h
  base s t hs ht h := by rw [tab0_get hs ht, decide_eq_false h]; rfl

theorem tset_inv {m : Mach} {rows : List (List Bool)} (o : MOk m) (h : TInv m rows) {s t : Int} (hs : St m s) (ht : St m t) {k : Nat} (hk : k < kM m) (hb : tb rows (pl (nx m s k)) (pl (nx m t k)) = true) : TInv m (tset rows (pl s) (pl t)) where
  shape := tset_shape h.shape (pl_lt hs) _
  sound a b ha hb2 h2 e := by
    rw [tb_tset h.shape (pl_lt hs) (pl_lt ht)] at h2
    by_cases e2 : pl a = pl s ∧ pl b = pl t
    · have e3 := pl_inj ha hs e2.1
      have e4 := pl_inj hb2 ht e2.2
      subst e3; subst e4
      exact h.sound _ _ (nx_st o hs hk) (nx_st o ht hk) hb (e.nx hk)
    · rw [if_neg e2] at h2
      exact h.sound a b ha hb2 h2 e
  base a b ha hb2 h2 := by
    rw [tb_tset h.shape (pl_lt hs) (pl_lt ht)]
    split
    · rfl
    · exact h.base a b ha hb2 h2

/-- What is behind a byte told apart is so. -/
def ClT (m : Mach) (rows : List (List Bool)) (i j : Nat) : Prop := ∀ k, k < kM m → tb rows (pl (nx m ((i : Int) - 1) k)) (pl (nx m ((j : Int) - 1) k)) = true → tb rows i j = true

theorem tab_eqv {m : Mach} (o : MOk m) {rows : List (List Bool)} (h : TInv m rows) (hc : ∀ i j, i < m.Next.length + 1 → j < m.Next.length + 1 → ClT m rows i j) {s t : Int} (hs : St m s) (ht : St m t) : tb rows (pl s) (pl t) = false ↔ Eqv m s t := by
  refine ⟨fun h2 => ?_, fun h2 => ?_⟩
  · refine eqv_co (fun s t => St m s ∧ St m t ∧ tb rows (pl s) (pl t) = false) (fun s t h3 => ?_) (fun s t h3 k hk => ⟨nx_st o h3.1 hk, nx_st o h3.2.1 hk, ?_⟩) ⟨hs, ht, h2⟩
    · refine Classical.byContradiction (fun hne => ?_)
      rw [h.base s t h3.1 h3.2.1 hne] at h3
      exact absurd h3.2.2 (by simp)
    · cases hb : tb rows (pl (nx m s k)) (pl (nx m t k)) with
      | false => rfl
      | true =>
        have e1 : ((pl s : Nat) : Int) - 1 = s := by have := h3.1.1; unfold pl; omega
        have e2 : ((pl t : Nat) : Int) - 1 = t := by have := h3.2.1.1; unfold pl; omega
        have := hc (pl s) (pl t) (pl_lt h3.1) (pl_lt h3.2.1) k hk (by rw [e1, e2]; exact hb)
        rw [h3.2.2] at this; cases this
  · cases hb : tb rows (pl s) (pl t) with
    | false => rfl
    | true => exact absurd h2 (h.sound s t hs ht hb)

/-- One pass over the table, so far. -/
structure Pass (m : Mach) (rows0 rows : List (List Bool)) (more : Bool) (D : Nat → Nat → Prop) : Prop where
  inv : TInv m rows
  grew : more = true → cntF rows0 < cntF rows
  same : more = false → rows = rows0 ∧ ∀ i j, D i j → ClT m rows0 i j

theorem Pass.begin {m : Mach} {rows : List (List Bool)} (h : TInv m rows) : Pass m rows rows false (fun _ _ => False) := ⟨h, fun h => (by cases h), fun _ => ⟨rfl, fun _ _ h => h.elim⟩⟩
theorem Pass.mono {m : Mach} {rows0 rows : List (List Bool)} {more : Bool} {D D' : Nat → Nat → Prop} (h : Pass m rows0 rows more D) (hd : ∀ i j, D' i j → D i j ∨ (more = false → ClT m rows0 i j)) : Pass m rows0 rows more D' :=
  ⟨h.inv, h.grew, fun hm => ⟨(h.same hm).1, fun i j h2 => (hd i j h2).elim (fun h3 => (h.same hm).2 i j h3) (fun h3 => h3 hm)⟩⟩
theorem Pass.set {m : Mach} (o : MOk m) {rows0 rows : List (List Bool)} {more : Bool} {D : Nat → Nat → Prop} (h : Pass m rows0 rows more D) {s t : Nat} (hs : s < m.Next.length + 1) (ht : t < m.Next.length + 1) {k : Nat} (hk : k < kM m)
    (hf : tb rows s t = false) (hb : tb rows (pl (nx m ((s : Int) - 1) k)) (pl (nx m ((t : Int) - 1) k)) = true) : Pass m rows0 (tset rows s t) true D := by
  have h1 := tset_inv o h.inv (st_at hs) (st_at ht) hk hb
  rw [pl_at, pl_at] at h1
  refine ⟨h1, fun _ => ?_, fun h => by cases h⟩
  rw [cnt_tset h.inv.shape hs ht hf]
  cases more with
  | true => have := h.grew rfl; omega
  | false => rw [(h.same rfl).1]; omega

end Go.Proofs.Ytbfjnldneemmiab
