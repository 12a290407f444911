/-
  Plain: the least machine.
-/
import Derived.Test.YtbfjnldneemmiabP1
namespace Go.Proofs.Ytbfjnldneemmiab
set_option linter.all false
open Go.Proofs.Ytbfjnldneemmiab.E

/-! ### as many bytes as states are enough -/
def sigP (m : Mach) (p : List Int) (s : Int) : Int × List Int := (pOf p s, (List.range (kM m)).map fun k => pOf p (nx m s k))
def pJ (m : Mach) : Nat → List Int
  | 0 => firstP m
  | j + 1 => nmI (ptn m.Next.length (sigP m (pJ m j)))

theorem pJ_len (m : Mach) : ∀ j, (pJ m j).length = m.Next.length + 1
  | 0 => (first_good m).len
  | j + 1 => by unfold pJ nmI; rw [List.length_map, ptn_len]

theorem pJ_iff {m : Mach} (o : MOk m) : ∀ (j : Nat) (s t : Int), St m s → St m t → (pOf (pJ m j) s = pOf (pJ m j) t ↔ EqJ m j s t)
  | 0, s, t, hs, ht => pOf_nm hs.1 hs.2 ht.1 ht.2
  | j + 1, s, t, hs, ht => by
    have ih := pJ_iff o j
    unfold pJ
    rw [pOf_nm hs.1 hs.2 ht.1 ht.2]
    unfold sigP EqJ
    rw [Prod.mk.injEq, ih s t hs ht, List.map_inj_left]
    refine ⟨fun h => ⟨h.1, fun k hk => (ih _ _ (nx_st o hs hk) (nx_st o ht hk)).1 (h.2 k (List.mem_range.2 hk))⟩, fun h => ⟨h.1, fun k hk => ?_⟩⟩
    have hk := List.mem_range.1 hk
    exact (ih _ _ (nx_st o hs hk) (nx_st o ht hk)).2 (h.2 k hk)

theorem pJ_step {m : Mach} (j : Nat) : cq (pJ m j) ≤ cq (pJ m (j + 1)) := by
  rw [show pJ m (j + 1) = nmI (ptn m.Next.length (sigP m (pJ m j))) from rfl, cq_nmI]
  have h := cq_map_le (ptn m.Next.length (sigP m (pJ m j))) Prod.fst
  have e : (ptn m.Next.length (sigP m (pJ m j))).map Prod.fst = ptn m.Next.length (pOf (pJ m j)) := by unfold ptn; rw [List.map_map]; rfl
  rw [e, ptn_pOf (pJ_len m j)] at h
  exact h

def StabJ (m : Mach) (j : Nat) : Prop := ∀ s t, St m s → St m t → EqJ m j s t → EqJ m (j + 1) s t

theorem stabJ_of {m : Mach} (o : MOk m) {j : Nat} (h : cq (pJ m (j + 1)) ≤ cq (pJ m j)) : StabJ m j := by
  intro s t hs ht e
  rw [show pJ m (j + 1) = nmI (ptn m.Next.length (sigP m (pJ m j))) from rfl, cq_nmI] at h
  have e2 : (ptn m.Next.length (sigP m (pJ m j))).map Prod.fst = ptn m.Next.length (pOf (pJ m j)) := by unfold ptn; rw [List.map_map]; rfl
  have h3 := cq_map_inj (l := ptn m.Next.length (sigP m (pJ m j))) (f := Prod.fst) (by rw [e2, ptn_pOf (pJ_len m j)]; exact h) (ptn_mem hs.1 hs.2) (ptn_mem ht.1 ht.2) ((pJ_iff o j s t hs ht).2 e)
  refine (pJ_iff o (j + 1) s t hs ht).1 ?_
  rw [show pJ m (j + 1) = nmI (ptn m.Next.length (sigP m (pJ m j))) from rfl, pOf_nm hs.1 hs.2 ht.1 ht.2]
  exact h3

theorem stab_up {m : Mach} (o : MOk m) {j : Nat} (h : StabJ m j) : ∀ (d : Nat) (s t : Int), St m s → St m t → EqJ m j s t → EqJ m (j + d) s t
  | 0, s, t, _, _, e => e
  | d + 1, s, t, hs, ht, e => by
    have h1 := h s t hs ht e
    refine ⟨stab_up o h d s t hs ht e, fun k hk => ?_⟩
    exact stab_up o h d _ _ (nx_st o hs hk) (nx_st o ht hk) (h1.2 k hk)

theorem EqJ.down {m : Mach} {s t : Int} : ∀ {j d : Nat}, EqJ m (j + d) s t → EqJ m j s t
  | _, 0, h => h
  | _, d + 1, h => EqJ.down (d := d) h.1

theorem stab_eqv {m : Mach} (o : MOk m) {j : Nat} (h : StabJ m j) {s t : Int} (hs : St m s) (ht : St m t) (e : EqJ m j s t) : Eqv m s t := by
  intro i
  rcases Nat.le_total i j with hij | hij
  · obtain ⟨d, rfl⟩ := Nat.exists_eq_add_of_le hij
    exact EqJ.down e
  · obtain ⟨d, rfl⟩ := Nat.exists_eq_add_of_le hij
    exact stab_up o h d s t hs ht e

theorem grows {m : Mach} (o : MOk m) : ∀ j, (∃ i, i < j ∧ StabJ m i) ∨ j + 1 ≤ cq (pJ m j)
  | 0 => .inr (cq_pos (by rw [pJ_len]; omega))
  | j + 1 => by
    rcases grows o j with ⟨i, hi, h⟩ | h
    · exact .inl ⟨i, by omega, h⟩
    · by_cases h2 : cq (pJ m (j + 1)) ≤ cq (pJ m j)
      · exact .inl ⟨j, by omega, stabJ_of o h2⟩
      · exact .inr (by omega)

theorem eqj_eqv {m : Mach} (o : MOk m) {s t : Int} (hs : St m s) (ht : St m t) (h : EqJ m m.Next.length s t) : Eqv m s t := by
  rcases grows o m.Next.length with ⟨i, hi, h2⟩ | h2
  · obtain ⟨d, hd⟩ := Nat.exists_eq_add_of_le (Nat.le_of_lt hi)
    rw [hd] at h
    exact stab_eqv o h2 hs ht (EqJ.down h)
  · have h3 := cq_map_inj (l := ptn m.Next.length id) (f := pOf (pJ m m.Next.length)) ?_ (ptn_mem (f := id) hs.1 hs.2) (ptn_mem (f := id) ht.1 ht.2) ((pJ_iff o _ s t hs ht).2 h)
    · rw [show s = t from h3]; exact Eqv.refl m t
    · have e : (ptn m.Next.length id).map (pOf (pJ m m.Next.length)) = pJ m m.Next.length := by
        have e3 := ptn_pOf (pJ_len m m.Next.length)
        have e4 : (ptn m.Next.length id).map (pOf (pJ m m.Next.length)) = ptn m.Next.length (pOf (pJ m m.Next.length)) := by unfold ptn; rw [List.map_map]; rfl
        rw [e4, e3]
      rw [e]
      have := cq_le (ptn m.Next.length (id : Int → Int))
      rw [ptn_len] at this
      omega

def eqB (m : Mach) (s t : Int) : Bool := decide (EqJ m m.Next.length s t)
theorem eqB_iff {m : Mach} (o : MOk m) {s t : Int} (hs : St m s) (ht : St m t) : eqB m s t = true ↔ Eqv m s t := by
  unfold eqB
  rw [decide_eq_true_eq]
  exact ⟨eqj_eqv o hs ht, fun h => h _⟩

/-! ### of each state the least one that is alike -/
def al (m : Mach) (s : Int) : Int := if s < 0 then -1 else if eqB m s (-1) then -1 else (((List.range s.toNat).find? fun t => eqB m s (t : Nat)).getD s.toNat : Nat)

theorem st_neg (m : Mach) : St m (-1) := ⟨by omega, by omega⟩
theorem st_nat {m : Mach} {i : Nat} (h : i < m.Next.length) : St m (i : Int) := ⟨by omega, by omega⟩

theorem al_is {m : Mach} (o : MOk m) {s : Int} {t : Nat} (hs : St m s) (ht : t < m.Next.length) (h1 : Eqv m s t) (h2 : ¬ Eqv m s (-1)) (h3 : ∀ u : Nat, u < t → ¬ Eqv m s u) : al m s = t := by
  have hs0 : ¬ s < 0 := fun h => h2 (by have : s = -1 := by have := hs.1; omega
                                        rw [this]; exact Eqv.refl m _)
  have hts : t ≤ s.toNat := by
    refine Nat.le_of_not_lt (fun h => h3 _ h ?_)
    rw [Int.toNat_of_nonneg (by omega)]; exact Eqv.refl m s
  unfold al
  rw [if_neg hs0, if_neg (fun h => h2 ((eqB_iff o hs (st_neg m)).1 h))]
  congr 1
  by_cases e : t = s.toNat
  · have : (List.range s.toNat).find? (fun t => eqB m s (t : Nat)) = none := by
      rw [List.find?_eq_none]
      intro u hu hb
      have hu := List.mem_range.1 hu
      exact h3 u (by omega) ((eqB_iff o hs (st_nat (by omega))).1 hb)
    rw [this, e]; rfl
  · have : (List.range s.toNat).find? (fun t => eqB m s (t : Nat)) = some t := by
      rw [List.find?_range_eq_some]
      refine ⟨(eqB_iff o hs (st_nat ht)).2 h1, List.mem_range.2 (by omega), fun j hj => ?_⟩
      cases hb : eqB m s (j : Nat) with
      | false => rfl
      | true => exact absurd ((eqB_iff o hs (st_nat (by omega))).1 hb) (h3 j hj)
    rw [this]; rfl

theorem al_dead {m : Mach} (o : MOk m) {s : Int} (hs : St m s) (h : Eqv m s (-1)) : al m s = -1 := by
  unfold al
  by_cases h0 : s < 0
  · rw [if_pos h0]
  · rw [if_neg h0, if_pos ((eqB_iff o hs (st_neg m)).2 h)]

theorem least_nat {P : Nat → Prop} {n : Nat} (h : P n) : ∃ t, t ≤ n ∧ P t ∧ ∀ u, u < t → ¬ P u := by
  classical
  induction n using Nat.strongRecOn with
  | _ n ih =>
    by_cases h2 : ∃ u, u < n ∧ P u
    · obtain ⟨u, hu, hp⟩ := h2
      obtain ⟨t, h1, h2, h3⟩ := ih u hu hp
      exact ⟨t, by omega, h2, h3⟩
    · exact ⟨n, Nat.le_refl _, h, fun u hu hp => h2 ⟨u, hu, hp⟩⟩

theorem al_live {m : Mach} (o : MOk m) {s : Int} (hs : St m s) (h : ¬ Eqv m s (-1)) : ∃ t : Nat, al m s = t ∧ (t : Int) ≤ s ∧ t < m.Next.length ∧ Eqv m s t ∧ ∀ u : Nat, u < t → ¬ Eqv m s u := by
  have hs0 : ¬ s < 0 := fun h0 => h (by have : s = -1 := by have := hs.1; omega
                                        rw [this]; exact Eqv.refl m _)
  have hn := hs.2
  obtain ⟨t, h1, h2, h3⟩ := least_nat (P := fun t => Eqv m s (t : Nat)) (n := s.toNat) (by rw [Int.toNat_of_nonneg (by omega)]; exact Eqv.refl m s)
  exact ⟨t, al_is o hs (by omega) h2 h h3, by omega, by omega, h2, h3⟩

theorem al_eqv {m : Mach} (o : MOk m) {s : Int} (hs : St m s) : Eqv m s (al m s) := by
  by_cases h : Eqv m s (-1)
  · rw [al_dead o hs h]; exact h
  · obtain ⟨t, h1, _, _, h2, _⟩ := al_live o hs h
    rw [h1]; exact h2

theorem al_st {m : Mach} (o : MOk m) {s : Int} (hs : St m s) : St m (al m s) := by
  by_cases h : Eqv m s (-1)
  · rw [al_dead o hs h]; exact st_neg m
  · obtain ⟨t, h1, _, h2, _, _⟩ := al_live o hs h
    rw [h1]; exact st_nat h2

theorem al_neg {m : Mach} (o : MOk m) {s : Int} (hs : St m s) : al m s < 0 ↔ Eqv m s (-1) := by
  refine ⟨fun h => ?_, fun h => by rw [al_dead o hs h]; omega⟩
  refine Classical.byContradiction (fun h2 => ?_)
  obtain ⟨t, h1, _⟩ := al_live o hs h2
  omega

theorem al_uni {m : Mach} (o : MOk m) {s t : Int} (hs : St m s) (ht : St m t) (h : Eqv m s t) : al m s = al m t := by
  by_cases h2 : Eqv m t (-1)
  · rw [al_dead o ht h2, al_dead o hs (h.trans h2)]
  · obtain ⟨u, h1, _, h3, h4, h5⟩ := al_live o ht h2
    rw [h1]
    exact al_is o hs h3 (h.trans h4) (fun h6 => h2 (h.symm.trans h6)) (fun v hv h6 => h5 v hv (h.symm.trans h6))

theorem al_inj {m : Mach} (o : MOk m) {s t : Int} (hs : St m s) (ht : St m t) (h : al m s = al m t) : Eqv m s t :=
  (al_eqv o hs).trans (h ▸ (al_eqv o ht).symm)

theorem al_idem {m : Mach} (o : MOk m) {s : Int} (hs : St m s) : al m (al m s) = al m s := al_uni o (al_st o hs) hs (al_eqv o hs).symm

def alM (m : Mach) : List Int := (List.range m.Next.length).map fun s => al m (s : Nat)

/-! ### the least machine's states -/
def clsN (m : Mach) (b : Nat) : Nat := (m.Class.get b).toNat
def go (m : Mach) (s : Int) (b : Nat) : Int := if al m s < 0 then -1 else al m (nx m s (clsN m b))
def addS (st : List Int) (t : Int) : List Int := if 0 ≤ t ∧ t ∉ st then st ++ [t] else st
def findI (st : List Int) (t : Int) : Int := if t ∈ st then (ix st t : Nat) else -1
def rowS2 (m : Mach) (s : Int) (st : List Int) (k : Nat) : List Int := (List.range k).foldl (fun st b => addS st (go m s b)) st
def stepR (m : Mach) (st : List Int) (s : Int) : List Int := rowS2 m s st 256
def bfs (m : Mach) : Nat → Nat → List Int → List Int
  | 0, _, st => st
  | f + 1, i, st => match st[i]? with
    | none => st
    | some s => bfs m f (i + 1) (stepR m st s)
def begM (m : Mach) : Int := if 0 ≤ al m 0 then al m 0 else 0
def finM (m : Mach) : List Int := bfs m (m.Next.length + 1) 0 [begM m]

theorem clsN_lt {m : Mach} (o : MOk m) {b : Nat} (h : b < 256) : clsN m b < kM m := by
  have := o.cls _ (m.Class.get_mem h)
  unfold clsN; omega

theorem go_st {m : Mach} (o : MOk m) {s : Int} {b : Nat} (hs : St m s) (hb : b < 256) : St m (go m s b) := by
  unfold go
  split
  · exact st_neg m
  · exact al_st o (nx_st o hs (clsN_lt o hb))

theorem rowS2_succ (m : Mach) (s : Int) (st : List Int) (k : Nat) : rowS2 m s st (k + 1) = addS (rowS2 m s st k) (go m s k) := by
  unfold rowS2; rw [List.range_succ, List.foldl_append]; rfl
theorem rowS2_zero (m : Mach) (s : Int) (st : List Int) : rowS2 m s st 0 = st := rfl

/-- A list of states, each once. -/
structure Sts (m : Mach) (st : List Int) : Prop where
  nd : st.Nodup
  rng : ∀ s ∈ st, 0 ≤ s ∧ s < m.Next.length

theorem Sts.len {m : Mach} {st : List Int} (h : Sts m st) : st.length ≤ m.Next.length := by
  have := nodup_le (v := st) (w := (List.range m.Next.length).map fun (i : Nat) => (i : Int)) h.nd (fun x hx => by
    have := h.rng x hx
    exact List.mem_map.2 ⟨x.toNat, List.mem_range.2 (by omega), by omega⟩)
  rwa [List.length_map, List.length_range] at this

theorem Sts.st {m : Mach} {st : List Int} (h : Sts m st) {s : Int} (hs : s ∈ st) : St m s := ⟨by have := (h.rng s hs).1; omega, (h.rng s hs).2⟩

theorem addS_sts {m : Mach} {st : List Int} (h : Sts m st) {t : Int} (ht : St m t) : Sts m (addS st t) := by
  unfold addS
  split
  · rename_i h2
    refine ⟨?_, fun s hs => ?_⟩
    · rw [List.nodup_append]
      refine ⟨h.nd, by simp, fun a ha b hb e => ?_⟩
      rw [List.mem_singleton] at hb
      subst hb; subst e
      exact h2.2 ha
    · rcases List.mem_append.1 hs with h3 | h3
      · exact h.rng s h3
      · rw [List.mem_singleton] at h3; subst h3; exact ⟨h2.1, ht.2⟩
  · exact h

theorem addS_pre (st : List Int) (t : Int) : st <+: addS st t := by
  unfold addS
  split
  · exact List.prefix_append _ _
  · exact List.prefix_refl _

theorem addS_mem {st : List Int} {t : Int} (h : 0 ≤ t) : t ∈ addS st t := by
  unfold addS
  by_cases h2 : t ∈ st
  · rw [if_neg (fun h3 => h3.2 h2)]; exact h2
  · rw [if_pos ⟨h, h2⟩]; simp

theorem rowS2_sts {m : Mach} (o : MOk m) {s : Int} (hs : St m s) {st : List Int} (h : Sts m st) : ∀ k, k ≤ 256 → Sts m (rowS2 m s st k)
  | 0, _ => h
  | k + 1, hk => by rw [rowS2_succ]; exact addS_sts (rowS2_sts o hs h k (by omega)) (go_st o hs (by omega))

theorem rowS2_pre (m : Mach) (s : Int) (st : List Int) : ∀ k, st <+: rowS2 m s st k
  | 0 => List.prefix_refl _
  | k + 1 => by rw [rowS2_succ]; exact (rowS2_pre m s st k).trans (addS_pre _ _)

theorem rowS2_mono (m : Mach) (s : Int) (st : List Int) (j : Nat) : ∀ d, rowS2 m s st j <+: rowS2 m s st (j + d)
  | 0 => List.prefix_refl _
  | d + 1 => by rw [← Nat.add_assoc, rowS2_succ]; exact (rowS2_mono m s st j d).trans (addS_pre _ _)

theorem bfs_pre (m : Mach) : ∀ (f i : Nat) (st : List Int), st <+: bfs m f i st
  | 0, _, st => List.prefix_refl _
  | f + 1, i, st => by
    unfold bfs
    cases h : st[i]? with
    | none => exact List.prefix_refl _
    | some s => exact (rowS2_pre m s st 256).trans (bfs_pre m f (i + 1) _)

theorem bfs_go {m : Mach} {f i : Nat} {st : List Int} (h : i < st.length) : bfs m (f + 1) i st = bfs m f (i + 1) (stepR m st st[i]) := by
  conv => lhs; unfold bfs
  rw [List.getElem?_eq_getElem h]
theorem bfs_end {m : Mach} {f i : Nat} {st : List Int} (h : st.length ≤ i) : bfs m f i st = st := by
  cases f with
  | zero => rfl
  | succ f => unfold bfs; rw [List.getElem?_eq_none h]

theorem findI_in {st : List Int} {t : Int} (h : t ∈ st) : findI st t = (ix st t : Nat) := if_pos h
theorem findI_out {st : List Int} {t : Int} (h : t ∉ st) : findI st t = -1 := if_neg h

theorem findI_pre {st st' : List Int} (h : st <+: st') {t : Int} (ht : t ∈ st) : findI st' t = findI st t := by
  obtain ⟨r, rfl⟩ := h
  rw [findI_in ht, findI_in (List.mem_append_left _ ht), ix_app_mem ht]

theorem findI_neg {m : Mach} {st : List Int} (h : Sts m st) {t : Int} (ht : t < 0) : findI st t = -1 := findI_out (fun h2 => by have := (h.rng t h2).1; omega)

/-- Once a place has been passed its states stay where they were found. -/
theorem findI_row {m : Mach} (o : MOk m) {s : Int} (hs : St m s) {st fin : List Int} (h : Sts m st) (hf : Sts m fin) {k : Nat} (hk : k < 256) (hp : rowS2 m s st (k + 1) <+: fin) : findI (rowS2 m s st (k + 1)) (go m s k) = findI fin (go m s k) := by
  by_cases h0 : 0 ≤ go m s k
  · rw [findI_pre hp]
    rw [rowS2_succ]; exact addS_mem h0
  · rw [findI_neg (rowS2_sts o hs h (k + 1) (by omega)) (by omega), findI_neg hf (by omega)]

theorem bfs_sts {m : Mach} (o : MOk m) : ∀ (f i : Nat) (st : List Int), Sts m st → Sts m (bfs m f i st)
  | 0, _, st, h => h
  | f + 1, i, st, h => by
    unfold bfs
    cases hi : st[i]? with
    | none => exact h
    | some s =>
      have hm : s ∈ st := List.mem_of_getElem? hi
      exact bfs_sts o f (i + 1) _ (rowS2_sts o (h.st hm) h 256 (Nat.le_refl _))

theorem beg_st {m : Mach} (o : MOk m) : 0 ≤ begM m ∧ begM m < m.Next.length := by
  unfold begM
  have h0 := o.n0
  have := al_st o (st_nat h0)
  split
  · rename_i h; exact ⟨h, this.2⟩
  · omega

theorem beg_sts {m : Mach} (o : MOk m) : Sts m [begM m] := ⟨by simp, fun s hs => by rw [List.mem_singleton] at hs; subst hs; exact beg_st o⟩
theorem fin_sts {m : Mach} (o : MOk m) : Sts m (finM m) := bfs_sts o _ _ _ (beg_sts o)

/-! ### classes -/
def sameB (m : Mach) (fin : List Int) (a b : Nat) : Bool := fin.all fun s => decide (go m s a = go m s b)
def fk (m : Mach) (fin : List Int) (c : Nat) : List Nat → Nat
  | [] => 0
  | a :: L => if sameB m fin c a then 0 else fk m fin c L + 1
def lcS (m : Mach) (fin : List Int) (L : List Nat) (c : Nat) : List Nat := if fk m fin c L = L.length then L ++ [c] else L
def Lc (m : Mach) (fin : List Int) (c : Nat) : List Nat := (List.range c).foldl (lcS m fin) []
def clsL (m : Mach) (fin : List Int) : C256 := ⟨(List.range 256).map fun c => ((fk m fin c (Lc m fin c) : Nat) : Int), by rw [List.length_map, List.length_range]⟩

def leastM (m : Mach) : Mach :=
  let fin := finM m
  let L := Lc m fin 256
  ⟨clsL m fin, fin.map fun s => L.map fun c => findI fin (go m s c), fin.map (rl m)⟩

def zeroM : Mach := ⟨.zero, [], []⟩
def ofM (m : Mach) : Mach := if checkM m = 0 then leastM m else zeroM

theorem Lc_succ (m : Mach) (fin : List Int) (c : Nat) : Lc m fin (c + 1) = lcS m fin (Lc m fin c) c := by unfold Lc; rw [List.range_succ, List.foldl_append]; rfl

theorem Lc_lt (m : Mach) (fin : List Int) : ∀ c, ∀ a ∈ Lc m fin c, a < c
  | 0, a, h => by simp [Lc] at h
  | c + 1, a, h => by
    rw [Lc_succ] at h
    unfold lcS at h
    have ih := Lc_lt m fin c a
    split at h
    · rcases List.mem_append.1 h with h | h
      · have := ih h; omega
      · rw [List.mem_singleton] at h; omega
    · have := ih h; omega

theorem Lc_len (m : Mach) (fin : List Int) : ∀ c, (Lc m fin c).length ≤ c
  | 0 => by simp [Lc]
  | c + 1 => by
    rw [Lc_succ]
    unfold lcS
    have ih := Lc_len m fin c
    split
    · rw [List.length_append, List.length_singleton]; omega
    · omega

theorem fk_le (m : Mach) (fin : List Int) (c : Nat) : ∀ L, fk m fin c L ≤ L.length
  | [] => Nat.le_refl _
  | a :: L => by
    have ih := fk_le m fin c L
    unfold fk
    split
    · omega
    · rw [List.length_cons]; omega

theorem fk_at {m : Mach} {fin : List Int} {c : Nat} : ∀ {L : List Nat} {k : Nat} (h : k < L.length), (∀ j (hj : j < L.length), j < k → sameB m fin c L[j] = false) → sameB m fin c L[k] = true → fk m fin c L = k
  | a :: L, 0, _, _, h2 => by rw [List.getElem_cons_zero] at h2; unfold fk; rw [if_pos h2]
  | a :: L, k + 1, h, h1, h2 => by
    unfold fk
    have := h1 0 (by simp) (by omega)
    rw [List.getElem_cons_zero] at this
    rw [this, if_neg (by simp)]
    rw [fk_at (L := L) (k := k) (by simpa using h) (fun j hj hjk => h1 (j + 1) (by simpa using hj) (by omega)) h2]

theorem fk_end {m : Mach} {fin : List Int} {c : Nat} : ∀ {L : List Nat}, (∀ j (hj : j < L.length), sameB m fin c L[j] = false) → fk m fin c L = L.length
  | [], _ => rfl
  | a :: L, h => by
    unfold fk
    have := h 0 (by simp)
    rw [List.getElem_cons_zero] at this
    rw [this, if_neg (by simp), fk_end (L := L) (fun j hj => h (j + 1) (by simpa using hj))]; rfl

/-! ### a machine whose beginning is dead -/
theorem dead_go {m : Mach} (h : al m 0 < 0) (b : Nat) : go m 0 b = -1 := by unfold go; rw [if_pos h]

theorem dead_row {m : Mach} (h : al m 0 < 0) : ∀ k, rowS2 m 0 [0] k = [0]
  | 0 => rfl
  | k + 1 => by rw [rowS2_succ, dead_row h k, dead_go h]; rfl

theorem dead_fin {m : Mach} (h : al m 0 < 0) : finM m = [0] := by
  unfold finM begM
  rw [if_neg (by omega), bfs_go (by simp), List.getElem_cons_zero, stepR, dead_row h, bfs_end (by simp)]

theorem dead_fk {m : Mach} (h : al m 0 < 0) (c a : Nat) (L : List Nat) : fk m [0] c (a :: L) = 0 := by
  unfold fk sameB
  rw [if_pos (by simp [dead_go h])]

theorem dead_Lc {m : Mach} (h : al m 0 < 0) : ∀ c, Lc m [0] (c + 1) = [0]
  | 0 => rfl
  | c + 1 => by
    rw [Lc_succ, dead_Lc h c]
    unfold lcS
    rw [dead_fk h, if_neg (by simp)]

theorem dead_least {m : Mach} (o : MOk m) (h : al m 0 < 0) : leastM m = ⟨.zero, [[-1]], [-1]⟩ := by
  unfold leastM
  simp only [dead_fin h, dead_Lc h, List.map_cons, List.map_nil, dead_go h]
  have e1 : clsL m [0] = C256.zero := by
    apply C256.ext
    unfold clsL C256.zero
    simp only
    apply List.ext_getElem (by rw [List.length_map, List.length_range, List.length_replicate])
    intro i h1 h2
    rw [List.getElem_map, List.getElem_range, List.getElem_replicate]
    cases i with
    | zero => rfl
    | succ i => rw [dead_Lc h, dead_fk h]; rfl
  have e2 : rl m 0 = -1 := ((al_neg o (st_nat o.n0)).1 h).rl
  rw [e1, e2]; rfl

end Go.Proofs.Ytbfjnldneemmiab
