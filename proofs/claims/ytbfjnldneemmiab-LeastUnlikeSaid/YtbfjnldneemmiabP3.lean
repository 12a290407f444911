/-
  Plain: the least machine as the program finds it.
-/
import Derived.Test.YtbfjnldneemmiabL6
namespace Go.Proofs.Ytbfjnldneemmiab
set_option linter.all false
open Go.Proofs.Ytbfjnldneemmiab.E

/-! ### of each part its least state -/
def AnyOk (m : Mach) (p : List Int) (j : Nat) (l : List (Int × Value)) : Prop :=
  ∀ s : Nat, j ≤ s → s < m.Next.length → ∃ t : Nat, lookK l (pOf p s) = some (.int .i64 (t : Nat)) ∧ j ≤ t ∧ t < m.Next.length ∧ pOf p (t : Nat) = pOf p s ∧ ∀ u : Nat, j ≤ u → u < m.Next.length → pOf p u = pOf p s → t ≤ u

theorem any_nil (m : Mach) (p : List Int) : AnyOk m p m.Next.length [] := fun s h1 h2 => by omega

theorem any_step {m : Mach} {p : List Int} {j : Nat} {l : List (Int × Value)} (h : AnyOk m p (j + 1) l) (hj : j < m.Next.length) : AnyOk m p j (setK (pOf p (j : Nat)) (.int .i64 (j : Nat)) l) := by
  intro s h1 h2
  rw [look_set]
  by_cases e : pOf p (s : Nat) = pOf p (j : Nat)
  · rw [if_pos e]
    exact ⟨j, rfl, Nat.le_refl _, hj, e.symm, fun u hu _ _ => hu⟩
  · rw [if_neg e]
    have hs : j + 1 ≤ s := by
      rcases Nat.lt_or_ge j s with h | h
      · exact h
      · have : s = j := by omega
        subst this; exact absurd rfl e
    obtain ⟨t, h3, h4, h5, h6, h7⟩ := h s hs h2
    refine ⟨t, h3, by omega, h5, h6, fun u hu hu2 hu3 => ?_⟩
    by_cases e2 : u = j
    · subst e2; exact absurd hu3.symm e
    · exact h7 u (by omega) hu2 hu3

theorem any_rep {m : Mach} (o : MOk m) {p : List Int} (q : IsEq m p) {l : List (Int × Value)} (h : AnyOk m p 0 l) {s : Nat} (hs : s < m.Next.length) (hr : al m s = s) : lookK l (pOf p (s : Nat)) = some (.int .i64 (s : Nat)) := by
  obtain ⟨t, h3, _, h5, h6, h7⟩ := h s (Nat.zero_le _) hs
  have h8 := h7 s (Nat.zero_le _) hs rfl
  have h9 : Eqv m t s := (q.iff _ _ (st_nat h5) (st_nat hs)).1 h6
  have hl : ¬ Eqv m (s : Int) (-1) := fun h => by have := (al_neg o (st_nat hs)).2 h; omega
  obtain ⟨t2, h10, _, _, h11, h12⟩ := al_live o (st_nat hs) hl
  have h13 : t2 = s := by omega
  subst h13
  have : ¬ t < t2 := fun h => h12 t h h9.symm
  have : t = t2 := by omega
  subst this
  exact h3

/-! ### rows of bytes -/
def rowC (m : Mach) (fin : List Int) (s : Int) : C256 := ⟨(List.range 256).map fun c => findI fin (go m s c), by rw [List.length_map, List.length_range]⟩

theorem rowC_get (m : Mach) (fin : List Int) (s : Int) {c : Nat} (h : c < 256) : (rowC m fin s).get c = findI fin (go m s c) := by
  rw [C256.get_eq _ (by rw [C256.h]; exact h)]
  unfold rowC
  rw [List.getElem_map, List.getElem_range]

theorem C256.ext_get {c d : C256} (h : ∀ j, j < 256 → c.get j = d.get j) : c = d := by
  apply C256.ext
  apply List.ext_getElem (by rw [c.h, d.h])
  intro i h1 h2
  rw [← C256.get_eq c h1, ← C256.get_eq d h2]
  exact h i (by rw [← c.h]; exact h1)

def Closed (m : Mach) (fin : List Int) : Prop := ∀ s ∈ fin, ∀ b, b < 256 → 0 ≤ go m s b → go m s b ∈ fin

theorem rowS2_has (m : Mach) (s : Int) (st : List Int) {b : Nat} (hb : b < 256) (h : 0 ≤ go m s b) : go m s b ∈ stepR m st s := by
  have h1 : go m s b ∈ rowS2 m s st (b + 1) := by rw [rowS2_succ]; exact addS_mem h
  obtain ⟨d, hd⟩ := Nat.exists_eq_add_of_le (show b + 1 ≤ 256 from hb)
  unfold stepR
  rw [hd]
  exact (rowS2_mono m s st (b + 1) d).subset h1

theorem bfs_closed {m : Mach} (o : MOk m) : ∀ (f i : Nat) (st : List Int), Sts m st → m.Next.length + 1 ≤ f + i → (∀ j (h : j < st.length), j < i → ∀ b, b < 256 → 0 ≤ go m st[j] b → go m st[j] b ∈ st) → Closed m (bfs m f i st)
  | 0, i, st, hs, hf, h => by
    intro s hm b hb h0
    have hm2 : s ∈ st := hm
    obtain ⟨j, hj, rfl⟩ := List.getElem_of_mem hm2
    have := hs.len
    exact h j hj (by omega) b hb h0
  | f + 1, i, st, hs, hf, h => by
    by_cases hi : i < st.length
    · rw [bfs_go hi]
      have hsi : st[i] ∈ st := List.getElem_mem hi
      have hpre := rowS2_pre m st[i] st 256
      refine bfs_closed o f (i + 1) _ (rowS2_sts o (hs.st hsi) hs 256 (Nat.le_refl _)) (by omega) (fun j hj hji b hb h0 => ?_)
      have hjl : j < st.length := by omega
      have e : (stepR m st st[i])[j] = st[j] := by
        obtain ⟨r, hr⟩ := hpre
        have : (stepR m st st[i])[j]? = st[j]? := by unfold stepR; rw [← hr, List.getElem?_append_left hjl]
        rw [List.getElem?_eq_getElem hj, List.getElem?_eq_getElem hjl] at this
        exact Option.some.inj this
      rw [e] at h0 ⊢
      by_cases hj2 : j < i
      · exact hpre.subset (h j hjl hj2 b hb h0)
      · have : j = i := by omega
        subst this
        exact rowS2_has m _ st hb h0
    · rw [bfs_end (by omega)]
      intro s hm b hb h0
      obtain ⟨j, hj, rfl⟩ := List.getElem_of_mem hm
      exact h j hj (by omega) b hb h0

theorem fin_closed {m : Mach} (o : MOk m) : Closed m (finM m) := bfs_closed o _ _ _ (beg_sts o) (by omega) (fun j _ h => absurd h (Nat.not_lt_zero j))

theorem findI_inj {m : Mach} {fin : List Int} {a b : Int} (ha : a = -1 ∨ a ∈ fin) (hb : b = -1 ∨ b ∈ fin) (hs : Sts m fin) (h : findI fin a = findI fin b) : a = b := by
  have hn : (-1 : Int) ∉ fin := fun h => by have := (hs.rng _ h).1; omega
  rcases ha with rfl | ha <;> rcases hb with rfl | hb
  · rfl
  · rw [findI_out hn, findI_in hb] at h; omega
  · rw [findI_out hn, findI_in ha] at h; omega
  · rw [findI_in ha, findI_in hb] at h
    exact ix_inj ha hb (by omega)

theorem go_in {m : Mach} (o : MOk m) {fin : List Int} (hs : Sts m fin) (hc : Closed m fin) {s : Int} (hm : s ∈ fin) {b : Nat} (hb : b < 256) : go m s b = -1 ∨ go m s b ∈ fin := by
  by_cases h : 0 ≤ go m s b
  · exact .inr (hc s hm b hb h)
  · exact .inl (by have := (go_st o (hs.st hm) hb).1; omega)

theorem rowsEq_same {m : Mach} (o : MOk m) {fin : List Int} (hs : Sts m fin) (hc : Closed m fin) {a b : Nat} (ha : a < 256) (hb : b < 256) : rowsEq (fin.map (rowC m fin)) a b = sameB m fin a b := by
  unfold rowsEq sameB
  rw [List.all_map, Bool.eq_iff_iff, List.all_eq_true, List.all_eq_true]
  refine ⟨fun h s hm => ?_, fun h s hm => ?_⟩
  · have := h s hm
    simp only [Function.comp, decide_eq_true_eq] at this ⊢
    rw [rowC_get m fin s ha, rowC_get m fin s hb] at this
    exact findI_inj (go_in o hs hc hm ha) (go_in o hs hc hm hb) hs this
  · have := h s hm
    simp only [Function.comp, decide_eq_true_eq] at this ⊢
    rw [rowC_get m fin s ha, rowC_get m fin s hb, this]

theorem findI_rng {m : Mach} {fin : List Int} (hs : Sts m fin) (t : Int) : -1 ≤ findI fin t ∧ findI fin t < fin.length := by
  by_cases h : t ∈ fin
  · rw [findI_in h]; have := ix_lt h; omega
  · rw [findI_out h]; omega

def nRow (m : Mach) (fin : List Int) (L : List Nat) (s : Int) : List Int := L.map fun c => findI fin (go m s c)
theorem nRow_len (m : Mach) (fin : List Int) (L : List Nat) (s : Int) : (nRow m fin L s).length = L.length := by unfold nRow; rw [List.length_map]

/-- What the answer takes in memory. -/
theorem rows_sz {m : Mach} (o : MOk m) {fin : List Int} (hs : Sts m fin) : fin.length ≤ 512 := by have := hs.len; have := o.n1; omega


/-! ### arrays in slices -/
theorem lit22 (c : C256) : fillL ((List.range 1).map fun j => (j * 256, 256)) ((List.range (1 * 256)).map fun j => (List.replicate 256 (Value.int .i64 0))[j % (List.replicate 256 (Value.int .i64 0)).length]!) [(0, .agg (dC c []).toArray)] = some (dC c []) := by
  have e1 : (Value.agg (dC c []).toArray).cells.toList = dC c [] := rfl
  have e2 : ((List.range 1).map fun j => (j * 256, 256))[0]? = some (0, 256) := rfl
  have e3 : ((List.range (1 * 256)).map fun j => (List.replicate 256 (Value.int .i64 0))[j % (List.replicate 256 (Value.int .i64 0)).length]!).length = 256 := by rw [List.length_map, List.length_range]
  have e4 : ¬ ((dC c []).length ≠ 256) := by rw [dC_len]; simp
  rw [fillL, e2]
  simp only [e1]
  rw [if_neg e4, if_pos (by rw [e3]; omega), setMany_all _ _ (by rw [e3, dC_len]; rfl)]; rfl

def encRow (c : C256) : List Value := dC c []
theorem encRow_len (c : C256) : (encRow c).length = 256 := by unfold encRow; rw [dC_len]; rfl

theorem rowC_app {α : Type} {acs : List (Option Addr × Nat)} {rows : List (List α)} (h : acs.length = rows.length) (ac : Option Addr × Nat) (r : List α) : E.rowC (acs ++ [ac]) (rows ++ [r]) = E.rowC acs rows ++ [.slice ac.1 r.length ac.2] := by
  unfold E.rowC; rw [List.zipWith_append h]; rfl
theorem rowL_app {α : Type} {enc : α → Value} {ei : TypeId} {acs : List (Option Addr × Nat)} {rows : List (List α)} (h : acs.length = rows.length) (ac : Option Addr × Nat) (r : List α) :
    E.rowL enc ei (acs ++ [ac]) (rows ++ [r]) = E.rowL enc ei acs rows ++ [osl ei 1 (.slice ac.1 r.length ac.2) r.length (r.map enc)] := by
  unfold E.rowL; rw [List.zipWith_append h]; rfl

/-- One row more. -/
theorem ent_orow_snoc {α : Type} {enc : α → Value} {eo ei : TypeId} {v : Value} {n : Nat} {acs : List (Option Addr × Nat)} {rows : List (List α)} {V : List Asn} {A : Option Addr} {c : Nat} {r : List α} (hl : acs.length = rows.length) :
    Ent (osl eo 1 v n (E.rowC acs rows ++ [.slice A r.length c]) :: osl ei 1 (.slice A r.length c) r.length (r.map enc) :: (E.rowL enc ei acs rows ++ V)) (orow enc eo ei v n (rows ++ [r]) :: V) := by
  refine Ent.ex (acs ++ [(A, c)]) (by simp [hl]) ?_
  rw [rowC_app hl, rowL_app hl, List.cons_append, List.append_assoc]
  exact Ent.cons Ent.mid

end Go.Proofs.Ytbfjnldneemmiab
