/-
  Plain: the least machine may be; it tells what the machine tells; its numbers.
-/
import Derived.Test.YtbfjnldneemmiabP5
import Derived.Test.YtbfjnldneemmiabL5
namespace Go.Proofs.Ytbfjnldneemmiab
set_option linter.all false
open Go.Proofs.Ytbfjnldneemmiab.E

attribute [local irreducible] Lc rowS2 stepR bfs findI

theorem fin_pos (m : Mach) : 0 < (finM m).length := by
  have := (bfs_pre m (m.Next.length + 1) 0 [begM m]).length_le
  exact Nat.lt_of_lt_of_le (by simp) this

theorem fin_zero {m : Mach} (o : MOk m) : (finM m)[0]'(fin_pos m) = 0 := by
  obtain ⟨d, hd⟩ := bfs_pre m (m.Next.length + 1) 0 [begM m]
  have h : (finM m)[0]? = some (begM m) := by
    have e : finM m = [begM m] ++ d := hd.symm
    rw [e]; rfl
  rw [List.getElem?_eq_getElem (fin_pos m)] at h
  have h2 := Option.some.inj h
  rw [h2]
  unfold begM
  by_cases h3 : 0 ≤ al m 0
  · rw [if_pos h3]
    have hs := st_nat o.n0
    have hl : ¬ Eqv m 0 (-1) := fun h4 => by have := (al_neg o hs).2 h4; have e : al m ((0 : Nat) : Int) = al m 0 := rfl; omega
    obtain ⟨t, h4, h5, _⟩ := al_live o hs hl
    have e : al m ((0 : Nat) : Int) = al m 0 := rfl
    omega
  · rw [if_neg h3]

theorem least_kM (m : Mach) : kM (leastM m) = (Lc m (finM m) 256).length := by
  have h : 0 < (leastM m).Next.length := by rw [least_len]; exact fin_pos m
  unfold kM
  rw [getD_lt h]
  exact least_rows (List.getElem_mem h)

theorem rl_rng' {m : Mach} (o : MOk m) {s : Int} (h0 : 0 ≤ s) (h1 : s < m.Next.length) : -1 ≤ rl m s ∧ rl m s < 64 := by
  have hr : s.toNat < m.Rule.length := by rw [o.r]; omega
  unfold rl
  rw [if_neg (by omega), getD_lt hr]
  exact o.rul _ (List.getElem_mem hr)

theorem least_ok {m : Mach} (o : MOk m) : MOk (leastM m) where
  n0 := by rw [least_len]; exact fin_pos m
  n1 := by rw [least_len]; exact rows_sz o (fin_sts o)
  r := least_rule m
  k0 := by rw [least_kM]; have := (Lc_inv m (finM m) 256).1 0 (by omega); omega
  k1 := by rw [least_kM]; exact Lc_len _ _ _
  cls v hv := by
    have e : (leastM m).Class = clsL m (finM m) := rfl
    rw [e] at hv
    rw [least_kM]
    obtain ⟨c, hc, rfl⟩ := List.getElem_of_mem hv
    have hc2 : c < 256 := by rw [C256.h] at hc; exact hc
    have h1 := clsL_get m (finM m) hc2
    rw [C256.get_eq _ hc] at h1
    have h3 := (Lc_inv m (finM m) 256).1 c hc2
    rw [h1]; omega
  row i h := by rw [least_kM]; exact least_rows (List.getElem_mem h)
  rul v hv := by
    unfold leastM at hv
    obtain ⟨s, hs, rfl⟩ := List.mem_map.1 hv
    have h1 := (fin_sts o).rng s hs
    exact rl_rng' o h1.1 h1.2
  go i h v hv := by
    have hr : (leastM m).Next[i] ∈ (leastM m).Next := List.getElem_mem h
    rw [least_len]
    generalize (leastM m).Next[i] = r at *
    unfold leastM at hr
    obtain ⟨s, hs, rfl⟩ := List.mem_map.1 hr
    obtain ⟨c, hc, rfl⟩ := List.mem_map.1 hv
    exact findI_rng (fin_sts o) (go m s c)

/-! ### a class's least byte stands for all of them -/
theorem fk_get {m : Mach} {fin : List Int} {c : Nat} : ∀ {L : List Nat} (h : fk m fin c L < L.length), sameB m fin c L[fk m fin c L] = true
  | [], h => by simp at h
  | a :: L, h => by
    by_cases e : sameB m fin c a = true
    · have e2 : fk m fin c (a :: L) = 0 := by unfold fk; rw [if_pos e]
      simp only [e2, List.getElem_cons_zero]; exact e
    · have e2 : fk m fin c (a :: L) = fk m fin c L + 1 := by conv => lhs; unfold fk; rw [if_neg e]
      simp only [e2, List.getElem_cons_succ]
      exact fk_get (by rw [e2] at h; simpa using h)

theorem sameB_refl (m : Mach) (fin : List Int) (c : Nat) : sameB m fin c c = true := by
  unfold sameB; rw [List.all_eq_true]; intro s _; exact decide_eq_true rfl

theorem Lc_pre (m : Mach) (fin : List Int) (c : Nat) : ∀ d, Lc m fin c <+: Lc m fin (c + d)
  | 0 => List.prefix_refl _
  | d + 1 => by
    refine (Lc_pre m fin c d).trans ?_
    rw [← Nat.add_assoc, Lc_succ]
    unfold lcS
    split
    · exact List.prefix_append _ _
    · exact List.prefix_refl _

theorem Lc_atK {m : Mach} {fin : List Int} {c k : Nat} (hc : c < 256) (hk : fcl m fin c = k) : ∃ h : k < (Lc m fin 256).length, sameB m fin c (Lc m fin 256)[k] = true := by
  have hl := (Lc_inv m fin 256).1 c hc
  rw [hk] at hl
  refine ⟨hl, ?_⟩
  obtain ⟨d, hd⟩ := Nat.exists_eq_add_of_le (show c + 1 ≤ 256 by omega)
  have hp := Lc_pre m fin (c + 1) d
  rw [← hd] at hp
  obtain ⟨r, hr⟩ := hp
  have hs := Lc_succ m fin c
  unfold lcS at hs
  have h2 := (Lc_inv m fin (c + 1)).1 c (by omega)
  rw [hk] at h2
  have key : (Lc m fin (c + 1))[k]? = some (Lc m fin 256)[k] := by
    have : (Lc m fin 256)[k]? = (Lc m fin (c + 1))[k]? := by rw [← hr, List.getElem?_append_left h2]
    rw [← this, List.getElem?_eq_getElem hl]
  unfold fcl at hk
  generalize (Lc m fin 256)[k] = x at *
  by_cases e : fk m fin c (Lc m fin c) = (Lc m fin c).length
  · rw [if_pos e] at hs
    have e2 : k = (Lc m fin c).length := by omega
    rw [hs, List.getElem?_append_right (by omega), e2, Nat.sub_self] at key
    simp only [List.getElem?_cons_zero, Option.some.injEq] at key
    rw [← key]; exact sameB_refl m fin c
  · rw [if_neg e] at hs
    have hlt : fk m fin c (Lc m fin c) < (Lc m fin c).length := Nat.lt_of_le_of_ne (fk_le _ _ _ _) e
    have h3 := fk_get hlt
    rw [hs, ← hk, List.getElem?_eq_getElem hlt] at key
    have key2 := Option.some.inj key
    rw [← key2]; exact h3

theorem Lc_at {m : Mach} {fin : List Int} {c : Nat} (hc : c < 256) : ∃ h : fcl m fin c < (Lc m fin 256).length, sameB m fin c (Lc m fin 256)[fcl m fin c] = true := Lc_atK hc rfl

theorem sameB_go {m : Mach} {fin : List Int} {a b : Nat} (h : sameB m fin a b = true) {s : Int} (hs : s ∈ fin) : go m s a = go m s b := by
  unfold sameB at h; exact of_decide_eq_true (List.all_eq_true.1 h s hs)

/-! ### where the least machine goes -/
def stp (m : Mach) (s : Int) (b : Nat) : Int := nx m s (clsN m b)
def toldT (m : Mach) (s : Int) (t : List Nat) : Int := rl m (t.foldl (stp m) s)

theorem least_cls {m : Mach} {c : Nat} (h : c < 256) : clsN (leastM m) c = fcl m (finM m) c := by
  have : (leastM m).Class.get c = (fcl m (finM m) c : Nat) := clsL_get m (finM m) h
  unfold clsN; rw [this, Int.toNat_natCast]

theorem least_nxk {m : Mach} {i k : Nat} (hi : i < (finM m).length) (hk : k < (Lc m (finM m) 256).length) : nx (leastM m) i k = findI (finM m) (go m (finM m)[i] (Lc m (finM m) 256)[k]) := by
  unfold nx
  rw [if_neg (by omega), Int.toNat_natCast]
  have e : (leastM m).Next.getD i [] = (Lc m (finM m) 256).map fun c => findI (finM m) (go m (finM m)[i] c) := by
    unfold leastM
    rw [List.getD_eq_getElem?_getD, List.getElem?_map, List.getElem?_eq_getElem hi]; rfl
  rw [e, List.getD_eq_getElem?_getD, List.getElem?_map, List.getElem?_eq_getElem hk]; rfl

theorem least_stp {m : Mach} {i c : Nat} (hi : i < (finM m).length) (hc : c < 256) : stp (leastM m) i c = findI (finM m) (go m (finM m)[i] c) := by
  obtain ⟨h, hs⟩ := Lc_at (m := m) (fin := finM m) hc
  unfold stp
  rw [least_cls hc, least_nxk hi h, ← sameB_go hs (List.getElem_mem hi)]

theorem least_rl {m : Mach} {i : Nat} (hi : i < (finM m).length) : rl (leastM m) i = rl m (finM m)[i] := by
  conv => lhs; unfold rl
  rw [if_neg (by omega), Int.toNat_natCast]
  unfold leastM
  rw [List.getD_eq_getElem?_getD, List.getElem?_map, List.getElem?_eq_getElem hi]; rfl

theorem told_neg (m : Mach) : ∀ t, toldT m (-1) t = -1
  | [] => rfl
  | b :: t => by
    have : toldT m (-1) (b :: t) = toldT m (-1) t := rfl
    rw [this]; exact told_neg m t

theorem told_cons (m : Mach) (s : Int) (b : Nat) (t : List Nat) : toldT m s (b :: t) = toldT m (stp m s b) t := rfl

theorem told_eqv {m : Mach} (o : MOk m) : ∀ (t : List Nat) {s u : Int}, (∀ b ∈ t, b < 256) → Eqv m s u → toldT m s t = toldT m u t
  | [], s, u, _, h => h.rl
  | b :: t, s, u, hb, h => by
    rw [told_cons, told_cons]
    exact told_eqv o t (fun x hx => hb x (List.mem_cons_of_mem _ hx)) (h.nx (clsN_lt o (hb b List.mem_cons_self)))

theorem findI_at {m : Mach} {fin : List Int} (h : Sts m fin) {t : Int} (ht : t ∈ fin) : ∃ j : Nat, ∃ hj : j < fin.length, findI fin t = (j : Int) ∧ fin[j] = t :=
  ⟨ix fin t, ix_lt ht, findI_in ht, by have := ix_get ht; rw [List.getElem?_eq_getElem (ix_lt ht)] at this; exact Option.some.inj this⟩

theorem told_least {m : Mach} (o : MOk m) : ∀ (t : List Nat) (i : Nat) (hi : i < (finM m).length), (∀ b ∈ t, b < 256) → toldT (leastM m) i t = toldT m (finM m)[i] t
  | [], i, hi, _ => least_rl hi
  | b :: t, i, hi, hb => by
    have hb0 := hb b List.mem_cons_self
    have hbt := fun x hx => hb x (List.mem_cons_of_mem b hx)
    have hsts := fin_sts o
    have hmem : (finM m)[i] ∈ finM m := List.getElem_mem hi
    have hst := hsts.st hmem
    have hk := clsN_lt o hb0
    rw [told_cons, told_cons, least_stp hi hb0]
    generalize hs : (finM m)[i] = s at *
    have hgs := go_st o hst hb0
    by_cases hd : al m s < 0
    · have hg : go m s b = -1 := by unfold go; rw [if_pos hd]
      have e := (al_neg o hst).1 hd
      rw [hg, findI_neg hsts (by omega), told_neg]
      have := told_eqv o t hbt (e.nx hk)
      rw [show stp m s b = nx m s (clsN m b) from rfl, this, nx_neg, told_neg]
    · have hg : go m s b = al m (stp m s b) := by unfold go; rw [if_neg hd]; rfl
      have hns : St m (stp m s b) := nx_st o hst hk
      have e2 := told_eqv o t hbt (al_eqv o hns)
      rw [hg, e2]
      by_cases h0 : al m (stp m s b) < 0
      · have h1 : al m (stp m s b) = -1 := by have := (al_st o hns).1; omega
        rw [h1, findI_neg hsts (by omega), told_neg, told_neg]
      · have hin : al m (stp m s b) ∈ finM m := by
          rw [← hg]; exact fin_closed o s hmem b hb0 (by rw [hg]; omega)
        obtain ⟨j, hj, e3, e4⟩ := findI_at hsts hin
        rw [e3, told_least o t j hj hbt, e4]

theorem told_start {m : Mach} (o : MOk m) {t : List Nat} (hb : ∀ b ∈ t, b < 256) : toldT (leastM m) 0 t = toldT m 0 t := by
  have := told_least o t 0 (fin_pos m) hb
  rw [fin_zero o] at this
  exact this

theorem fin_len {m : Mach} (o : MOk m) : (finM m).length ≤ m.Next.length := (fin_sts o).len

end Go.Proofs.Ytbfjnldneemmiab
