/-
  Plain: what the names' beginnings are: just what their productions begin with.
-/
import Derived.Test.YtcbaebkkdkdaaaaDoorCQBJ

namespace Go.Proofs.YtcbaebkkdkdaaaaDoor
set_option linter.all false

/-- Of two states of knowledge the second knows all of the first. -/
structure Le (s u : BSt) : Prop where
  no : ∀ n, s.1.getD n false = true → u.1.getD n false = true
  fi : ∀ n x, (s.2.getD n []).getD x false = true → (u.2.getD n []).getD x false = true

theorem Le.refl (s : BSt) : Le s s := ⟨fun _ h => h, fun _ _ h => h⟩

theorem orL_true {r te : List Bool} {i : Nat} (hl : te.length = r.length) (h : (orL r te).getD i false = true) : r.getD i false = true ∨ te.getD i false = true := by
  rw [orL_getD _ hl] at h
  simpa using h

theorem getD_set_true {a : List Bool} {k i : Nat} (h : (a.set k true).getD i false = true) : (k = i ∧ i < a.length) ∨ a.getD i false = true := by
  rw [List.getD_eq_getElem?_getD, List.getElem?_set] at h
  by_cases hk : k = i
  · subst hk
    by_cases hl : k < a.length
    · exact .inl ⟨rfl, hl⟩
    · rw [if_pos rfl, if_neg hl] at h; simp at h
  · rw [if_neg hk] at h
    exact .inr (by rw [List.getD_eq_getElem?_getD]; exact h)

theorem rowS_le {t n : Nat} {s u : BSt} (hs : BInv t n s) (hu : BInv t n u) (hle : Le s u) : ∀ (l : List Int) (_ : ∀ x ∈ l, x < (t : Int) + n) (a b : List Bool), a.length = t → b.length = t → (∀ i, a.getD i false = true → b.getD i false = true) →
    ((rowS t s.1 s.2 l a).2 = true → (rowS t u.1 u.2 l b).2 = true) ∧ ∀ i, (rowS t s.1 s.2 l a).1.getD i false = true → (rowS t u.1 u.2 l b).1.getD i false = true
  | [], _, a, b, _, _, h => ⟨fun _ => rfl, h⟩
  | x :: l, hx, a, b, ha, hb, h => by
    have hxl := hx x (List.mem_cons_self ..)
    have hx' : ∀ y ∈ l, y < (t : Int) + n := fun y hy => hx y (List.mem_cons_of_mem _ hy)
    rw [rowS_cons, rowS_cons]
    by_cases hxt : x < (t : Int)
    · rw [if_pos hxt, if_pos hxt]
      refine ⟨(by intro h; cases h), fun i hi => ?_⟩
      simp only at hi ⊢
      rcases getD_set_true hi with ⟨h1, h2⟩ | h1
      · rw [getD_set _ _ (by omega)]; simp [h1]
      · have hi2 : i < b.length := by
          rcases Nat.lt_or_ge i b.length with h | h2
          · exact h
          · have := h i h1
            rw [List.getD_eq_getElem?_getD, List.getElem?_eq_none h2] at this; simp at this
        rw [getD_set _ _ hi2, h i h1, Bool.or_true]
    · rw [if_neg hxt, if_neg hxt]
      have hfs : (s.2.getD (x - t).toNat []).length = t := hs.row (by omega)
      have hfu : (u.2.getD (x - t).toNat []).length = t := hu.row (by omega)
      have hor : ∀ i, (orL a (s.2.getD (x - t).toNat [])).getD i false = true → (orL b (u.2.getD (x - t).toNat [])).getD i false = true := by
        intro i hi
        rw [orL_getD _ (by omega)]
        rcases orL_true (by omega) hi with h1 | h1
        · rw [h i h1]; rfl
        · rw [hle.fi _ _ h1, Bool.or_true]
      cases hno : s.1.getD (x - t).toNat false with
      | true =>
        rw [if_pos rfl, hle.no _ hno, if_pos rfl]
        exact rowS_le hs hu hle l hx' _ _ (by rw [orL_len]; exact ha) (by rw [orL_len]; exact hb) hor
      | false =>
        simp only [Bool.false_eq_true, if_false]
        refine ⟨(by intro h; cases h), fun i hi => ?_⟩
        have h1 := hor i hi
        split
        · have h2 := rowS_acc hu l hx' (orL b (u.2.getD (x - t).toNat [])) (by rw [orL_len]; exact hb)
          rw [h2]
          simp only
          rw [orL_getD _ (by rw [rowS_len, orL_len]; simp [hb]), h1]; rfl
        · exact h1

theorem rowT_le {t n : Nat} {s u : BSt} (hs : BInv t n s) (hu : BInv t n u) (hle : Le s u) {l : List Int} (hx : ∀ x ∈ l, x < (t : Int) + n) :
    ((rowT t s l).2 = true → (rowT t u l).2 = true) ∧ ∀ i, (rowT t s l).1.getD i false = true → (rowT t u l).1.getD i false = true :=
  rowS_le hs hu hle l hx _ _ (by simp) (by simp) (fun _ h => h)

/-- A production's part, with what is known of a state that stays. -/
def gStep (t : Nat) (s A : BSt) (p : Prd) : BSt := (if (rowT t s p.Right).2 then A.1.set p.Left.toNat true else A.1, A.2.set p.Left.toNat (orL (A.2.getD p.Left.toNat []) (rowT t s p.Right).1))
def gAll (t : Nat) (s : BSt) (ps : List Prd) (A : BSt) : BSt := ps.foldl (gStep t s) A

theorem gStep_self (t n : Nat) (s : BSt) (hs : BInv t n s) (p : Prd) (hp : p.Left.toNat < n) : gStep t s s p = bStep t s p := by
  unfold gStep bStep bNo bFi orL
  rw [hs.row hp]

theorem gStep_inv {t n : Nat} {s A : BSt} (hA : BInv t n A) (p : Prd) (hp : p.Left.toNat < n) : BInv t n (gStep t s A p) := by
  refine ⟨?_, ?_, ?_⟩
  · unfold gStep; simp only; split
    · rw [List.length_set]; exact hA.no
    · exact hA.no
  · unfold gStep; simp only [List.length_set]; exact hA.fi
  · intro r hr
    unfold gStep at hr
    rcases List.mem_or_eq_of_mem_set hr with h | h
    · exact hA.rows r h
    · rw [h, orL_len]; exact hA.row hp

theorem gAll_inv {t n : Nat} {s : BSt} : ∀ (ps : List Prd) (_ : ∀ p ∈ ps, p.Left.toNat < n) (A : BSt), BInv t n A → BInv t n (gAll t s ps A)
  | [], _, _, h => h
  | p :: ps, hp, A, h => gAll_inv ps (fun q hq => hp q (List.mem_cons_of_mem _ hq)) (gStep t s A p) (gStep_inv h p (hp p (List.mem_cons_self ..)))

theorem getD_set_list {l : List (List Bool)} (k n : Nat) (r : List Bool) (hk : k < l.length) : (l.set k r).getD n [] = if k = n then r else l.getD n [] := by
  rw [List.getD_eq_getElem?_getD, List.getElem?_set, List.getD_eq_getElem?_getD]
  by_cases h : k = n
  · rw [if_pos h, if_pos h, if_pos hk]; rfl
  · rw [if_neg h, if_neg h]

/-- What a step makes known: what was known, and the production's part. -/
theorem gStep_get {t n : Nat} {s A : BSt} (hA : BInv t n A) (p : Prd) (hp : p.Left.toNat < n) :
    (∀ k, (gStep t s A p).1.getD k false = (A.1.getD k false || (decide (p.Left.toNat = k) && (rowT t s p.Right).2))) ∧
    ∀ k x, ((gStep t s A p).2.getD k []).getD x false = ((A.2.getD k []).getD x false || (decide (p.Left.toNat = k) && (rowT t s p.Right).1.getD x false)) := by
  constructor
  · intro k
    unfold gStep
    simp only
    cases h : (rowT t s p.Right).2 with
    | false => simp
    | true =>
      rw [if_pos rfl]
      by_cases hk : k < A.1.length
      · rw [getD_set _ _ hk]; simp [Bool.or_comm]
      · have h1 : (A.1.set p.Left.toNat true)[k]? = none := List.getElem?_eq_none (by rw [List.length_set]; omega)
        have h2 : A.1[k]? = none := List.getElem?_eq_none (by omega)
        have h3 : ¬ p.Left.toNat = k := by have := hA.no; omega
        simp [List.getD_eq_getElem?_getD, h1, h2, h3]
  · intro k x
    unfold gStep
    simp only
    rw [getD_set_list _ _ _ (by rw [hA.fi]; exact hp)]
    by_cases h : p.Left.toNat = k
    · subst h
      rw [if_pos rfl, orL_getD _ (by rw [rowT_len, hA.row hp])]; simp
    · rw [if_neg h]; simp [h]

theorem Le.of_gStep {t n : Nat} {s A : BSt} (hA : BInv t n A) (p : Prd) (hp : p.Left.toNat < n) : Le A (gStep t s A p) := by
  obtain ⟨h1, h2⟩ := gStep_get (s := s) hA p hp
  exact ⟨fun k h => by rw [h1, h]; rfl, fun k x h => by rw [h2, h]; rfl⟩

theorem Le.trans {a b c : BSt} (h : Le a b) (h' : Le b c) : Le a c := ⟨fun n x => h'.no n (h.no n x), fun n x y => h'.fi n x (h.fi n x y)⟩

/-- The part of each production is in all of it. -/
theorem gAll_part {t n : Nat} {s : BSt} : ∀ (ps : List Prd) (_ : ∀ p ∈ ps, p.Left.toNat < n) (A : BSt), BInv t n A →
    Le A (gAll t s ps A) ∧ ∀ p ∈ ps, ((rowT t s p.Right).2 = true → (gAll t s ps A).1.getD p.Left.toNat false = true) ∧ ∀ x, (rowT t s p.Right).1.getD x false = true → ((gAll t s ps A).2.getD p.Left.toNat []).getD x false = true
  | [], _, A, _ => ⟨Le.refl _, (by intro p hp; cases hp)⟩
  | q :: ps, hp, A, hA => by
    have hq := hp q (List.mem_cons_self ..)
    obtain ⟨h1, h2⟩ := gAll_part (s := s) ps (fun p hp' => hp p (List.mem_cons_of_mem _ hp')) (gStep t s A q) (gStep_inv hA q hq)
    obtain ⟨g1, g2⟩ := gStep_get (s := s) hA q hq
    refine ⟨(Le.of_gStep hA q hq).trans h1, fun p hp' => ?_⟩
    rcases List.mem_cons.1 hp' with rfl | hp'
    · exact ⟨fun h => h1.no _ (by rw [g1, h]; simp), fun x h => h1.fi _ _ (by rw [g2, h]; simp)⟩
    · exact h2 p hp'

theorem gAll_le {t n : Nat} {s u : BSt} : ∀ (ps : List Prd) (_ : ∀ p ∈ ps, p.Left.toNat < n) (A : BSt), BInv t n A → Le A u →
    (∀ p ∈ ps, ((rowT t s p.Right).2 = true → u.1.getD p.Left.toNat false = true) ∧ ∀ x, (rowT t s p.Right).1.getD x false = true → (u.2.getD p.Left.toNat []).getD x false = true) → Le (gAll t s ps A) u
  | [], _, _, _, h, _ => h
  | q :: ps, hp, A, hA, h, hq => by
    have hq' := hp q (List.mem_cons_self ..)
    obtain ⟨g1, g2⟩ := gStep_get (s := s) hA q hq'
    obtain ⟨u1, u2⟩ := hq q (List.mem_cons_self ..)
    refine gAll_le ps (fun p hp' => hp p (List.mem_cons_of_mem _ hp')) (gStep t s A q) (gStep_inv hA q hq') ⟨fun k hk => ?_, fun k x hk => ?_⟩ (fun p hp' => hq p (List.mem_cons_of_mem _ hp'))
    · rw [g1] at hk
      simp only [Bool.or_eq_true, Bool.and_eq_true, decide_eq_true_eq] at hk
      rcases hk with hk | ⟨rfl, hk⟩
      · exact h.no _ hk
      · exact u1 hk
    · rw [g2] at hk
      simp only [Bool.or_eq_true, Bool.and_eq_true, decide_eq_true_eq] at hk
      rcases hk with hk | ⟨rfl, hk⟩
      · exact h.fi _ _ hk
      · exact u2 _ hk

theorem bStep_of_fix {t n : Nat} : ∀ (ps : List Prd) (_ : ∀ p ∈ ps, p.Left.toNat < n) (s : BSt), BInv t n s → bRound t ps s = s → ∀ p ∈ ps, bStep t s p = s
  | [], _, _, _, _ => fun p hp => by cases hp
  | q :: ps, hp, s, hs, h => by
    have hq := hp q (List.mem_cons_self ..)
    have hps : ∀ p ∈ ps, p.Left.toNat < n := fun p hp' => hp p (List.mem_cons_of_mem _ hp')
    have e : bStep t s q = s := by
      rcases bPart_cnt hs q hq (Nat.le_refl t) with h1 | h1
      · exact h1
      · have h2 : bRound t ps (bStep t s q) = s := h
        have h1' : cntS s < cntS (bStep t s q) := h1
        rcases bRound_cnt ps hps (bStep t s q) (bStep_inv hs q hq) with h3 | h3
        · rw [h2] at h3; rw [← h3] at h1'; omega
        · rw [h2] at h3; omega
    intro p hp'
    rcases List.mem_cons.1 hp' with rfl | hp'
    · exact e
    · refine bStep_of_fix ps hps s hs ?_ p hp'
      have h2 : bRound t ps (bStep t s q) = s := h
      rwa [e] at h2

theorem Le.antisymm {t n : Nat} {s u : BSt} (hs : BInv t n s) (hu : BInv t n u) (h : Le s u) (h' : Le u s) : s = u := by
  have hb : ∀ a b : Bool, (a = true → b = true) → (b = true → a = true) → a = b := by decide
  apply Prod.ext
  · exact ext_getD (by rw [hs.no, hu.no]) fun i _ => hb _ _ (h.no i) (h'.no i)
  · apply List.ext_getElem (by rw [hs.fi, hu.fi])
    intro i h1 h2
    refine ext_getD (by rw [hs.rows _ (List.getElem_mem h1), hu.rows _ (List.getElem_mem h2)]) fun x _ => ?_
    have e1 : s.2.getD i [] = s.2[i] := by rw [List.getD_eq_getElem?_getD, List.getElem?_eq_getElem h1]; rfl
    have e2 : u.2.getD i [] = u.2[i] := by rw [List.getD_eq_getElem?_getD, List.getElem?_eq_getElem h2]; rfl
    rw [← e1, ← e2]
    exact hb _ _ (h.fi i x) (h'.fi i x)

/-- All that is known at the end is known of some production, and the other way round. -/
theorem gAll_fix {g : Gram} (he : checkE g = 0) : gAll g.Terms.length (bFix g) g.Prods (bInit g.Terms.length g.Nons.length) = bFix g := by
  have hok := gOk he
  have hnat := hok.bs.nat
  have hF := hok.inv
  have hI := bInit_inv g.Terms.length g.Nons.length
  have hfix := bFix_fix hnat
  have hpart : ∀ p ∈ g.Prods, ((rowT g.Terms.length (bFix g) p.Right).2 = true → (bFix g).1.getD p.Left.toNat false = true) ∧ ∀ x, (rowT g.Terms.length (bFix g) p.Right).1.getD x false = true → ((bFix g).2.getD p.Left.toNat []).getD x false = true := by
    intro p hp
    have h1 := bStep_of_fix g.Prods hnat (bFix g) hF hfix p hp
    rw [← gStep_self _ _ _ hF p (hnat p hp)] at h1
    obtain ⟨g1, g2⟩ := gStep_get (s := bFix g) hF p (hnat p hp)
    rw [h1] at g1 g2
    exact ⟨fun h => by rw [g1, h]; simp, fun x h => by rw [g2, h]; simp⟩
  have hbot : ∀ u, Le (bInit g.Terms.length g.Nons.length) u := fun u => ⟨fun n h => by
    unfold bInit at h
    simp only [List.getD_eq_getElem?_getD, List.getElem?_replicate] at h
    split at h <;> simp at h, fun n x h => by
    unfold bInit at h
    simp only [List.getD_eq_getElem?_getD, List.getElem?_replicate] at h
    split at h
    · simp only [Option.getD_some, List.getElem?_replicate] at h
      split at h <;> simp at h
    · simp at h⟩
  have hG := gAll_inv (s := bFix g) g.Prods hnat _ hI
  refine Le.antisymm hG hF (gAll_le g.Prods hnat _ hI (hbot _) hpart) ?_
  obtain ⟨_, hin⟩ := gAll_part (s := bFix g) g.Prods hnat _ hI
  have hround : ∀ (ps : List Prd), (∀ p ∈ ps, p ∈ g.Prods) → ∀ s, BInv g.Terms.length g.Nons.length s → Le s (bFix g) → Le s (gAll g.Terms.length (bFix g) g.Prods (bInit g.Terms.length g.Nons.length)) →
      BInv g.Terms.length g.Nons.length (bRound g.Terms.length ps s) ∧ Le (bRound g.Terms.length ps s) (bFix g) ∧ Le (bRound g.Terms.length ps s) (gAll g.Terms.length (bFix g) g.Prods (bInit g.Terms.length g.Nons.length)) := by
    intro ps
    induction ps with
    | nil => intro _ s h1 h2 h3; exact ⟨h1, h2, h3⟩
    | cons q ps ih =>
      intro hsub s h1 h2 h3
      have hq := hsub q (List.mem_cons_self ..)
      have hqn := hnat q hq
      have hqr : ∀ x ∈ q.Right, x < (g.Terms.length : Int) + g.Nons.length := by
        obtain ⟨i, hi, rfl⟩ := List.getElem_of_mem hq
        exact fun x hx => (hok.bs.right i hi x hx).2
      obtain ⟨r1, r2⟩ := rowT_le h1 hF h2 hqr
      have hstep := gStep_self _ _ _ h1 q hqn
      obtain ⟨g1, g2⟩ := gStep_get (s := s) h1 q hqn
      rw [hstep] at g1 g2
      refine ih (fun p hp => hsub p (List.mem_cons_of_mem _ hp)) (bStep g.Terms.length s q) (bStep_inv h1 q hqn) ⟨fun k hk => ?_, fun k x hk => ?_⟩ ⟨fun k hk => ?_, fun k x hk => ?_⟩
      · rw [g1] at hk
        simp only [Bool.or_eq_true, Bool.and_eq_true, decide_eq_true_eq] at hk
        rcases hk with hk | ⟨rfl, hk⟩
        · exact h2.no _ hk
        · exact (hpart q hq).1 (r1 hk)
      · rw [g2] at hk
        simp only [Bool.or_eq_true, Bool.and_eq_true, decide_eq_true_eq] at hk
        rcases hk with hk | ⟨rfl, hk⟩
        · exact h2.fi _ _ hk
        · exact (hpart q hq).2 _ (r2 _ hk)
      · rw [g1] at hk
        simp only [Bool.or_eq_true, Bool.and_eq_true, decide_eq_true_eq] at hk
        rcases hk with hk | ⟨rfl, hk⟩
        · exact h3.no _ hk
        · exact (hin q hq).1 (r1 hk)
      · rw [g2] at hk
        simp only [Bool.or_eq_true, Bool.and_eq_true, decide_eq_true_eq] at hk
        rcases hk with hk | ⟨rfl, hk⟩
        · exact h3.fi _ _ hk
        · exact (hin q hq).2 _ (r2 _ hk)
  unfold bFix
  exact (it_inv (I := fun s => BInv g.Terms.length g.Nons.length s ∧ Le s (bFix g) ∧ Le s (gAll g.Terms.length (bFix g) g.Prods (bInit g.Terms.length g.Nons.length)))
    (fun s ⟨h1, h2, h3⟩ => hround g.Prods (fun _ h => h) s h1 h2 h3) ⟨hI, hbot _, hbot _⟩ _).2.2

/-- A production's part is known of its name. -/
theorem part_known {g : Gram} (he : checkE g = 0) (p : Prd) (hp : p ∈ g.Prods) :
    ((rowT g.Terms.length (bFix g) p.Right).2 = true → (bFix g).1.getD p.Left.toNat false = true) ∧ ∀ x, (rowT g.Terms.length (bFix g) p.Right).1.getD x false = true → ((bFix g).2.getD p.Left.toNat []).getD x false = true := by
  have hok := gOk he
  have h := (gAll_part (s := bFix g) g.Prods hok.bs.nat _ (bInit_inv g.Terms.length g.Nons.length)).2 p hp
  rwa [gAll_fix he] at h

end Go.Proofs.YtcbaebkkdkdaaaaDoor
