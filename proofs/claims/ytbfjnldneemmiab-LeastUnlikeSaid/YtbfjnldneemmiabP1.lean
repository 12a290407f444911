/-
  Plain: distinct things, counted and numbered; states that no text tells apart.
-/
import Derived.Test.YtbfjnldneemmiabLD
import Derived.Test.YtbfjnldneemmiabE19
namespace Go.Proofs.Ytbfjnldneemmiab
set_option linter.all false
open Go.Proofs.Ytbfjnldneemmiab.E

/-! ### distinct things -/
section uniq
variable {κ : Type} [DecidableEq κ]

def uqS (u : List κ) (k : κ) : List κ := if k ∈ u then u else u ++ [k]
def uq (l : List κ) : List κ := l.foldl uqS []
def cq (l : List κ) : Nat := (uq l).length
def nmI (l : List κ) : List Int := l.map fun k => ((ix (uq l) k : Nat) : Int)

theorem uq_snoc (l : List κ) (k : κ) : uq (l ++ [k]) = uqS (uq l) k := by unfold uq; rw [List.foldl_append]; rfl

theorem mem_uqS {u : List κ} {k x : κ} : x ∈ uqS u k ↔ x ∈ u ∨ x = k := by
  unfold uqS
  by_cases h : k ∈ u
  · rw [if_pos h]
    exact ⟨.inl, fun h2 => h2.elim id (fun e => e ▸ h)⟩
  · rw [if_neg h, List.mem_append, List.mem_singleton]

theorem snoc_ind {α : Type} {P : List α → Prop} (h0 : P []) (h1 : ∀ l x, P l → P (l ++ [x])) (l : List α) : P l := by
  have : ∀ r : List α, P r.reverse := by
    intro r
    induction r with
    | nil => exact h0
    | cons x r ih => rw [List.reverse_cons]; exact h1 _ _ ih
  have h := this l.reverse
  rwa [List.reverse_reverse] at h

theorem mem_uq {l : List κ} {x : κ} : x ∈ uq l ↔ x ∈ l := by
  induction l using snoc_ind with
  | h0 => exact Iff.rfl
  | h1 l k ih => rw [uq_snoc, mem_uqS, ih, List.mem_append, List.mem_singleton]

theorem uq_nodup (l : List κ) : (uq l).Nodup := by
  induction l using snoc_ind with
  | h0 => exact List.nodup_nil
  | h1 l k ih =>
    rw [uq_snoc]
    unfold uqS
    by_cases h : k ∈ uq l
    · rw [if_pos h]; exact ih
    · rw [if_neg h, List.nodup_append]
      exact ⟨ih, by simp, fun a ha b hb e => by rw [List.mem_singleton] at hb; subst hb; subst e; exact h ha⟩

theorem ix_lt : ∀ {u : List κ} {k : κ}, k ∈ u → ix u k < u.length
  | x :: u, k, h => by
    unfold ix
    by_cases e : x = k
    · rw [if_pos e]; simp
    · rw [if_neg e]
      have : k ∈ u := (List.mem_cons.1 h).resolve_left (fun e2 => e e2.symm)
      have := ix_lt this
      simp only [List.length_cons]; omega

theorem ix_get : ∀ {u : List κ} {k : κ}, k ∈ u → u[ix u k]? = some k
  | x :: u, k, h => by
    unfold ix
    by_cases e : x = k
    · rw [if_pos e, e]; rfl
    · rw [if_neg e, List.getElem?_cons_succ]
      exact ix_get ((List.mem_cons.1 h).resolve_left (fun e2 => e e2.symm))

theorem ix_inj {u : List κ} {a b : κ} (ha : a ∈ u) (hb : b ∈ u) (h : ix u a = ix u b) : a = b := by
  have h1 := ix_get ha
  have h2 := ix_get hb
  rw [h, h2] at h1
  exact (Option.some.inj h1).symm

theorem ix_app_mem : ∀ {u v : List κ} {k : κ}, k ∈ u → ix (u ++ v) k = ix u k
  | x :: u, v, k, h => by
    rw [List.cons_append]
    unfold ix
    by_cases e : x = k
    · rw [if_pos e, if_pos e]
    · rw [if_neg e, if_neg e, ix_app_mem ((List.mem_cons.1 h).resolve_left (fun e2 => e e2.symm))]

theorem ix_app_not : ∀ {u : List κ} {k : κ}, k ∉ u → ix (u ++ [k]) k = u.length
  | [], k, _ => by simp [ix]
  | x :: u, k, h => by
    rw [List.cons_append]
    unfold ix
    rw [if_neg (fun e => h (by rw [e]; exact List.mem_cons_self)), ix_app_not (fun h2 => h (List.mem_cons_of_mem _ h2))]; rfl

theorem ix_uqS {u : List κ} {k x : κ} (h : x ∈ u) : ix (uqS u k) x = ix u x := by
  unfold uqS
  by_cases e : k ∈ u
  · rw [if_pos e]
  · rw [if_neg e]; exact ix_app_mem h

theorem nmI_snoc (l : List κ) (k : κ) : nmI (l ++ [k]) = nmI l ++ [((ix (uqS (uq l) k) k : Nat) : Int)] := by
  unfold nmI
  rw [List.map_append, uq_snoc]
  congr 1
  apply List.map_congr_left
  intro x hx
  rw [ix_uqS (mem_uq.2 hx)]

theorem nodup_le {v w : List κ} (hv : v.Nodup) (h : ∀ x ∈ v, x ∈ w) : v.length ≤ w.length := by
  induction v generalizing w with
  | nil => simp
  | cons x v ih =>
    rw [List.nodup_cons] at hv
    have hx := h x List.mem_cons_self
    have := ih (w := w.erase x) hv.2 (fun y hy => by
      have hne : y ≠ x := fun e => by subst e; exact hv.1 hy
      exact (List.mem_erase_of_ne hne).2 (h y (List.mem_cons_of_mem _ hy)))
    rw [List.length_erase_of_mem hx] at this
    have hp := List.length_pos_of_mem hx
    simp only [List.length_cons]; omega

theorem cq_map_le {β : Type} [DecidableEq β] (l : List κ) (f : κ → β) : cq (l.map f) ≤ cq l := by
  unfold cq
  have := nodup_le (v := uq (l.map f)) (w := (uq l).map f) (uq_nodup _) (fun x hx => by
    rw [mem_uq] at hx
    obtain ⟨a, ha, rfl⟩ := List.mem_map.1 hx
    exact List.mem_map.2 ⟨a, mem_uq.2 ha, rfl⟩)
  rwa [List.length_map] at this

theorem cq_map_inj {β : Type} [DecidableEq β] {l : List κ} {f : κ → β} (h : cq l ≤ cq (l.map f)) {a b : κ} (ha : a ∈ l) (hb : b ∈ l) (e : f a = f b) : a = b := by
  refine Classical.byContradiction (fun hne => ?_)
  unfold cq at h
  have hb' : b ∈ uq l := mem_uq.2 hb
  have := nodup_le (v := uq (l.map f)) (w := ((uq l).erase b).map f) (uq_nodup _) (fun x hx => by
    rw [mem_uq] at hx
    obtain ⟨c, hc, rfl⟩ := List.mem_map.1 hx
    by_cases hcb : c = b
    · exact List.mem_map.2 ⟨a, (List.mem_erase_of_ne hne).2 (mem_uq.2 ha), by rw [hcb]; exact e⟩
    · exact List.mem_map.2 ⟨c, (List.mem_erase_of_ne hcb).2 (mem_uq.2 hc), rfl⟩)
  rw [List.length_map, List.length_erase_of_mem hb'] at this
  have := List.length_pos_of_mem hb'
  omega

theorem cq_le (l : List κ) : cq l ≤ l.length := nodup_le (uq_nodup l) (fun _ hx => mem_uq.1 hx)

theorem cq_pos {l : List κ} (h : 0 < l.length) : 0 < cq l := by
  obtain ⟨x, hx⟩ := List.exists_mem_of_length_pos h
  exact List.length_pos_of_mem (mem_uq.2 hx)

theorem nmI_inj {l : List κ} {a b : κ} (ha : a ∈ l) (hb : b ∈ l) (h : ((ix (uq l) a : Nat) : Int) = ((ix (uq l) b : Nat) : Int)) : a = b :=
  ix_inj (mem_uq.2 ha) (mem_uq.2 hb) (by omega)

theorem cq_nmI (l : List κ) : cq (nmI l) = cq l := by
  apply Nat.le_antisymm
  · exact cq_map_le _ _
  · unfold cq
    have := nodup_le (v := (uq l).map fun k => ((ix (uq l) k : Nat) : Int)) (w := uq (nmI l)) ?_ ?_
    · rwa [List.length_map] at this
    · rw [List.nodup_iff_pairwise_ne, List.pairwise_map]
      exact (List.nodup_iff_pairwise_ne.1 (uq_nodup l)).imp_of_mem (fun ha hb hne e => hne (ix_inj ha hb (by omega)))
    · intro x hx
      obtain ⟨a, ha, rfl⟩ := List.mem_map.1 hx
      exact mem_uq.2 (List.mem_map.2 ⟨a, mem_uq.1 ha, rfl⟩)

end uniq

/-! ### states -/
def nx (m : Mach) (s : Int) (k : Nat) : Int := if s < 0 then -1 else (m.Next.getD s.toNat []).getD k 0
def rl (m : Mach) (s : Int) : Int := if s < 0 then -1 else m.Rule.getD s.toNat 0
def St (m : Mach) (s : Int) : Prop := -1 ≤ s ∧ s < m.Next.length

theorem nx_st {m : Mach} (o : MOk m) {s : Int} {k : Nat} (hs : St m s) (hk : k < kM m) : St m (nx m s k) := by
  unfold nx
  have h0 := o.n0
  by_cases h : s < 0
  · rw [if_pos h]; exact ⟨by omega, by omega⟩
  · rw [if_neg h]
    have h1 : s.toNat < m.Next.length := by have := hs.2; omega
    have h2 := o.row _ h1
    rw [List.getD_eq_getElem?_getD, List.getD_eq_getElem?_getD, List.getElem?_eq_getElem h1, Option.getD_some, List.getElem?_eq_getElem (by omega), Option.getD_some]
    exact o.go _ h1 _ (List.getElem_mem _)

theorem nx_neg (m : Mach) (k : Nat) : nx m (-1) k = -1 := rfl
theorem rl_neg (m : Mach) : rl m (-1) = -1 := rfl

def EqJ (m : Mach) : Nat → Int → Int → Prop
  | 0, s, t => rl m s = rl m t
  | j + 1, s, t => EqJ m j s t ∧ ∀ k, k < kM m → EqJ m j (nx m s k) (nx m t k)

instance EqJ.dec (m : Mach) : ∀ (j : Nat) (s t : Int), Decidable (EqJ m j s t)
  | 0, _, _ => inferInstanceAs (Decidable (_ = _))
  | j + 1, s, t => @instDecidableAnd _ _ (EqJ.dec m j s t) (@Nat.decidableBallLT (kM m) (fun k _ => EqJ m j (nx m s k) (nx m t k)) (fun k _ => EqJ.dec m j _ _))

def Eqv (m : Mach) (s t : Int) : Prop := ∀ j, EqJ m j s t

theorem EqJ.refl (m : Mach) : ∀ (j : Nat) (s : Int), EqJ m j s s
  | 0, _ => rfl
  | j + 1, s => ⟨EqJ.refl m j s, fun k _ => EqJ.refl m j _⟩
theorem EqJ.symm {m : Mach} : ∀ {j : Nat} {s t : Int}, EqJ m j s t → EqJ m j t s
  | 0, _, _, h => Eq.symm h
  | j + 1, _, _, h => ⟨h.1.symm, fun k hk => (h.2 k hk).symm⟩
theorem EqJ.trans {m : Mach} : ∀ {j : Nat} {s t u : Int}, EqJ m j s t → EqJ m j t u → EqJ m j s u
  | 0, _, _, _, h, h2 => Eq.trans h h2
  | j + 1, _, _, _, h, h2 => ⟨h.1.trans h2.1, fun k hk => (h.2 k hk).trans (h2.2 k hk)⟩
theorem Eqv.refl (m : Mach) (s : Int) : Eqv m s s := fun j => EqJ.refl m j s
theorem Eqv.symm {m : Mach} {s t : Int} (h : Eqv m s t) : Eqv m t s := fun j => (h j).symm
theorem Eqv.trans {m : Mach} {s t u : Int} (h : Eqv m s t) (h2 : Eqv m t u) : Eqv m s u := fun j => (h j).trans (h2 j)
theorem Eqv.rl {m : Mach} {s t : Int} (h : Eqv m s t) : rl m s = rl m t := h 0
theorem Eqv.nx {m : Mach} {s t : Int} (h : Eqv m s t) {k : Nat} (hk : k < kM m) : Eqv m (nx m s k) (nx m t k) := fun j => (h (j + 1)).2 k hk

theorem eqv_co {m : Mach} (R : Int → Int → Prop) (h1 : ∀ s t, R s t → Go.Proofs.Ytbfjnldneemmiab.rl m s = Go.Proofs.Ytbfjnldneemmiab.rl m t) (h2 : ∀ s t, R s t → ∀ k, k < kM m → R (Go.Proofs.Ytbfjnldneemmiab.nx m s k) (Go.Proofs.Ytbfjnldneemmiab.nx m t k)) {s t : Int} (h : R s t) : Eqv m s t := by
  intro j
  induction j generalizing s t with
  | zero => exact h1 s t h
  | succ j ih => exact ⟨ih h, fun k hk => ih (h2 s t h k hk)⟩

/-! ### parts -/
def pOf (p : List Int) (s : Int) : Int := if s = -1 then p.getD (p.length - 1) 0 else p.getD s.toNat 0
def stOf (n i : Nat) : Int := if i < n then (i : Int) else -1

theorem stOf_st {m : Mach} {i : Nat} (hn : 0 < m.Next.length) : St m (stOf m.Next.length i) := by
  unfold stOf; split <;> exact ⟨by omega, by omega⟩

/-- The parts of a way to look at states. -/
def ptn {κ : Type} (n : Nat) (f : Int → κ) : List κ := (List.range (n + 1)).map fun i => f (stOf n i)

theorem ptn_len {κ : Type} (n : Nat) (f : Int → κ) : (ptn n f).length = n + 1 := by unfold ptn; rw [List.length_map, List.length_range]
theorem ptn_get {κ : Type} (n : Nat) (f : Int → κ) {i : Nat} (h : i < n + 1) : (ptn n f)[i]? = some (f (stOf n i)) := by
  unfold ptn; rw [List.getElem?_map, List.getElem?_range h]; rfl
theorem ptn_mem {κ : Type} {n : Nat} {f : Int → κ} {s : Int} (h1 : -1 ≤ s) (h2 : s < n) : f s ∈ ptn n f := by
  unfold ptn
  rw [List.mem_map]
  by_cases h : s = -1
  · refine ⟨n, List.mem_range.2 (by omega), ?_⟩
    unfold stOf; rw [if_neg (by omega), h]
  · refine ⟨s.toNat, List.mem_range.2 (by omega), ?_⟩
    unfold stOf; rw [if_pos (by omega)]
    congr 1; omega

theorem pOf_ptn {n : Nat} {f : Int → Int} {s : Int} (h1 : -1 ≤ s) (h2 : s < n) : pOf (ptn n f) s = f s := by
  unfold pOf
  by_cases h : s = -1
  · rw [if_pos h, ptn_len, List.getD_eq_getElem?_getD, ptn_get _ _ (by omega), Option.getD_some]
    unfold stOf; rw [if_neg (by omega), h]
  · rw [if_neg h, List.getD_eq_getElem?_getD, ptn_get _ _ (by omega), Option.getD_some]
    unfold stOf; rw [if_pos (by omega)]
    congr 1; omega

theorem nmI_ptn {κ : Type} [DecidableEq κ] (n : Nat) (f : Int → κ) : nmI (ptn n f) = ptn n (fun s => ((ix (uq (ptn n f)) (f s) : Nat) : Int)) := by
  unfold nmI
  conv => lhs; rw [show ptn n f = (List.range (n + 1)).map fun i => f (stOf n i) from rfl, List.map_map]
  rfl

theorem pOf_nm {κ : Type} [DecidableEq κ] {n : Nat} {f : Int → κ} {s t : Int} (h1 : -1 ≤ s) (h2 : s < n) (h3 : -1 ≤ t) (h4 : t < n) : pOf (nmI (ptn n f)) s = pOf (nmI (ptn n f)) t ↔ f s = f t := by
  rw [nmI_ptn, pOf_ptn h1 h2, pOf_ptn h3 h4]
  refine ⟨fun h => nmI_inj (ptn_mem h1 h2) (ptn_mem h3 h4) h, fun h => by rw [h]⟩

theorem nmI_rng {κ : Type} [DecidableEq κ] {n : Nat} {f : Int → κ} : ∀ v ∈ nmI (ptn n f), 0 ≤ v ∧ v ≤ n := by
  intro v hv
  obtain ⟨k, hk, rfl⟩ := List.mem_map.1 hv
  have h1 := ix_lt (mem_uq.2 hk)
  have h2 := cq_le (ptn n f)
  rw [ptn_len] at h2
  unfold cq at h2
  omega

theorem ptn_pOf {n : Nat} {p : List Int} (h : p.length = n + 1) : ptn n (pOf p) = p := by
  apply List.ext_getElem?
  intro i
  by_cases hi : i < n + 1
  · rw [ptn_get _ _ hi, List.getElem?_eq_getElem (by omega)]
    unfold stOf pOf
    by_cases h2 : i < n
    · rw [if_pos h2, if_neg (by omega), List.getD_eq_getElem?_getD, Int.toNat_natCast, List.getElem?_eq_getElem (by omega)]; rfl
    · rw [if_neg h2, if_pos rfl, List.getD_eq_getElem?_getD]
      have e : p.length - 1 = i := by omega
      rw [e, List.getElem?_eq_getElem (by omega)]; rfl
  · rw [List.getElem?_eq_none (by rw [ptn_len]; omega), List.getElem?_eq_none (by omega)]

structure Good (m : Mach) (p : List Int) : Prop where
  len : p.length = m.Next.length + 1
  rng : ∀ v ∈ p, 0 ≤ v ∧ v ≤ m.Next.length
  coarse : ∀ s t, St m s → St m t → Eqv m s t → pOf p s = pOf p t
  fine : ∀ s t, St m s → St m t → pOf p s = pOf p t → rl m s = rl m t

def firstP (m : Mach) : List Int := nmI (ptn m.Next.length (rl m))
def keyP (m : Mach) (p : List Int) (k : Nat) (s : Int) : Int × Int := (pOf p s, pOf p (nx m s k))
def splitP (m : Mach) (p : List Int) (k : Nat) : List Int := nmI (ptn m.Next.length (keyP m p k))

theorem first_good (m : Mach) : Good m (firstP m) where
  len := by unfold firstP nmI; rw [List.length_map, ptn_len]
  rng := nmI_rng
  coarse s t hs ht h := (pOf_nm hs.1 hs.2 ht.1 ht.2).2 h.rl
  fine s t hs ht h := (pOf_nm hs.1 hs.2 ht.1 ht.2).1 h

theorem split_good {m : Mach} (o : MOk m) {p : List Int} (g : Good m p) {k : Nat} (hk : k < kM m) : Good m (splitP m p k) where
  len := by unfold splitP nmI; rw [List.length_map, ptn_len]
  rng := nmI_rng
  coarse s t hs ht h := by
    refine (pOf_nm hs.1 hs.2 ht.1 ht.2).2 ?_
    unfold keyP
    rw [g.coarse s t hs ht h, g.coarse _ _ (nx_st o hs hk) (nx_st o ht hk) (h.nx hk)]
  fine s t hs ht h := by
    have := (pOf_nm hs.1 hs.2 ht.1 ht.2).1 h
    exact g.fine s t hs ht (congrArg Prod.fst this)

theorem split_ge {m : Mach} {p : List Int} (g : Good m p) (k : Nat) : cq p ≤ cq (splitP m p k) := by
  unfold splitP
  rw [cq_nmI]
  have h := cq_map_le (ptn m.Next.length (keyP m p k)) Prod.fst
  have e : (ptn m.Next.length (keyP m p k)).map Prod.fst = ptn m.Next.length (pOf p) := by unfold ptn; rw [List.map_map]; rfl
  rw [e, ptn_pOf g.len] at h
  exact h

theorem split_eq {m : Mach} {p : List Int} (g : Good m p) {k : Nat} (h : cq (splitP m p k) ≤ cq p) {s t : Int} (hs : St m s) (ht : St m t) (e : pOf p s = pOf p t) : pOf p (nx m s k) = pOf p (nx m t k) := by
  unfold splitP at h
  rw [cq_nmI] at h
  have e2 : (ptn m.Next.length (keyP m p k)).map Prod.fst = ptn m.Next.length (pOf p) := by unfold ptn; rw [List.map_map]; rfl
  have := cq_map_inj (l := ptn m.Next.length (keyP m p k)) (f := Prod.fst) (by rw [e2, ptn_pOf g.len]; exact h) (ptn_mem hs.1 hs.2) (ptn_mem ht.1 ht.2) e
  exact congrArg Prod.snd this

theorem split_same {m : Mach} {p : List Int} (g : Good m p) {k : Nat} (h : cq (splitP m p k) ≤ cq p) {s t : Int} (hs : St m s) (ht : St m t) : pOf (splitP m p k) s = pOf (splitP m p k) t ↔ pOf p s = pOf p t := by
  unfold splitP
  rw [pOf_nm hs.1 hs.2 ht.1 ht.2]
  unfold keyP
  exact ⟨fun e => congrArg Prod.fst e, fun e => by rw [e, split_eq g h hs ht e]⟩

/-- Parts that go to parts are those of what no text tells apart. -/
theorem stable_eqv {m : Mach} (o : MOk m) {p : List Int} (g : Good m p) (h : ∀ k, k < kM m → ∀ s t, St m s → St m t → pOf p s = pOf p t → pOf p (nx m s k) = pOf p (nx m t k)) {s t : Int} (hs : St m s) (ht : St m t) :
    pOf p s = pOf p t ↔ Eqv m s t := by
  refine ⟨fun e => ?_, g.coarse s t hs ht⟩
  exact eqv_co (fun s t => St m s ∧ St m t ∧ pOf p s = pOf p t) (fun s t h => g.fine s t h.1 h.2.1 h.2.2)
    (fun s t h2 k hk => ⟨nx_st o h2.1 hk, nx_st o h2.2.1 hk, h k hk s t h2.1 h2.2.1 h2.2.2⟩) ⟨hs, ht, e⟩

end Go.Proofs.Ytbfjnldneemmiab
