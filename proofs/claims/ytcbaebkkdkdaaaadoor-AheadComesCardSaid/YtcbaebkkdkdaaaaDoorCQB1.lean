/-
  Plain: terms behind names, by rounds; after as many rounds as there are names, and one, nothing is new; terms behind places are behind names.
-/
import Derived.Test.YtcbaebkkdkdaaaaDoorAhBase4

namespace Go.Proofs.YtcbaebkkdkdaaaaDoor
set_option linter.all false
open Go.Proofs.YtcbaebkkdkdaaaaDoor.E

/-- What is behind the place k of production i. -/
def sufR (g : Gram) (i k : Nat) : List Int := (prd g i).Right.drop (k + 1)
def sufT (g : Gram) (i k : Nat) : List Bool × Bool := rowT g.Terms.length (bFix g) (sufR g i k)
def symR (g : Gram) (i k : Nat) : Int := (prd g i).Right.getD k 0
def lefN (g : Gram) (i : Nat) : Nat := (prd g i).Left.toNat
def folRow (Fn Fl b : List Bool) (nz : Bool) (m : Nat) : List Bool := (List.range Fn.length).map fun a => Fn.getD a false || (decide (a < m) && (b.getD a false || (nz && Fl.getD a false)))
def folStep (g : Gram) (F : List (List Bool)) (ik : Nat × Nat) : List (List Bool) :=
  if symR g ik.1 ik.2 < g.Terms.length then F
  else F.set (symR g ik.1 ik.2 - g.Terms.length).toNat (folRow (F.getD (symR g ik.1 ik.2 - g.Terms.length).toNat []) (F.getD (lefN g ik.1) []) (sufT g ik.1 ik.2).1 (sufT g ik.1 ik.2).2 g.Terms.length)
def folI (g : Gram) (F : List (List Bool)) (i k : Nat) : List (List Bool) := (List.range k).foldl (fun F j => folStep g F (i, j)) F
def folP (g : Gram) (F : List (List Bool)) (n : Nat) : List (List Bool) := (List.range n).foldl (fun F (i : Nat) => folI g F i (prd g i).Right.length) F
def folRound (g : Gram) (F : List (List Bool)) : List (List Bool) := folP g F g.Prods.length
def fol0 (g : Gram) : List (List Bool) := (List.replicate g.Nons.length (List.replicate g.Terms.length false)).set 0 ((List.replicate g.Terms.length false).set 0 true)
def folFin (g : Gram) : List (List Bool) := it (folRound g) (g.Nons.length + 1) (fol0 g)
def folB (g : Gram) (n a : Nat) : Bool := ((folFin g).getD n []).getD a false

theorem folI_succ (g : Gram) (F : List (List Bool)) (i k : Nat) : folI g F i (k + 1) = folStep g (folI g F i k) (i, k) := by unfold folI; rw [List.range_succ, List.foldl_append]; rfl
theorem folP_succ (g : Gram) (F : List (List Bool)) (n : Nat) : folP g F (n + 1) = folI g (folP g F n) n (prd g n).Right.length := by unfold folP; rw [List.range_succ, List.foldl_append]; rfl

theorem folRow_len (Fn Fl b : List Bool) (nz : Bool) (m : Nat) : (folRow Fn Fl b nz m).length = Fn.length := by unfold folRow; simp
theorem folRow_get {Fn Fl b : List Bool} {nz : Bool} {m a : Nat} (h : a < Fn.length) : (folRow Fn Fl b nz m).getD a false = (Fn.getD a false || (decide (a < m) && (b.getD a false || (nz && Fl.getD a false)))) := by
  unfold folRow
  rw [List.getD_eq_getElem?_getD, List.getElem?_map, List.getElem?_range h]; rfl
theorem folRow_zero (Fn Fl b : List Bool) (nz : Bool) : folRow Fn Fl b nz 0 = Fn := by
  apply List.ext_getElem (folRow_len _ _ _ _ _)
  intro a h1 h2
  have := folRow_get (Fl := Fl) (b := b) (nz := nz) (m := 0) h2
  rw [List.getD_eq_getElem?_getD, List.getElem?_eq_getElem h1, Option.getD_some, List.getD_eq_getElem?_getD, List.getElem?_eq_getElem h2] at this
  rw [this]; simp
theorem folRow_succ {Fn Fl b : List Bool} {nz : Bool} {m : Nat} (h : m < Fn.length) : folRow Fn Fl b nz (m + 1) = (folRow Fn Fl b nz m).set m (Fn.getD m false || (b.getD m false || (nz && Fl.getD m false))) := by
  apply List.ext_getElem
  · rw [List.length_set, folRow_len, folRow_len]
  · intro a h1 h2
    have h3 : a < Fn.length := by rw [folRow_len] at h1; exact h1
    have e1 := folRow_get (Fl := Fl) (b := b) (nz := nz) (m := m + 1) h3
    have e2 := folRow_get (Fl := Fl) (b := b) (nz := nz) (m := m) h3
    rw [List.getD_eq_getElem?_getD, List.getElem?_eq_getElem h1, Option.getD_some] at e1
    rw [List.getD_eq_getElem?_getD, List.getElem?_eq_getElem (by rw [folRow_len]; exact h3), Option.getD_some] at e2
    rw [e1, List.getElem_set]
    split
    · rename_i e; subst e; simp
    · rename_i e
      rw [e2]
      have : decide (a < m + 1) = decide (a < m) := by rw [Bool.eq_iff_iff]; simp; omega
      rw [this]
theorem folRow_at {Fn Fl b : List Bool} {nz : Bool} {m : Nat} (h : m < Fn.length) : (folRow Fn Fl b nz m).getD m false = Fn.getD m false := by rw [folRow_get h]; simp

/-- Rows are as long as there are terms. -/
structure FInv (g : Gram) (F : List (List Bool)) : Prop where
  n : F.length = g.Nons.length
  t : ∀ r ∈ F, r.length = g.Terms.length

theorem FInv.row {g : Gram} {F : List (List Bool)} (h : FInv g F) {n : Nat} (hn : n < g.Nons.length) : (F.getD n []).length = g.Terms.length := by
  rw [List.getD_eq_getElem?_getD, List.getElem?_eq_getElem (by rw [h.n]; exact hn)]
  exact h.t _ (List.getElem_mem _)
theorem FInv.step {g : Gram} {F : List (List Bool)} (h : FInv g F) (ik : Nat × Nat) : FInv g (folStep g F ik) := by
  unfold folStep
  split
  · exact h
  · refine ⟨by rw [List.length_set]; exact h.n, fun r hr => ?_⟩
    by_cases hn : (symR g ik.1 ik.2 - g.Terms.length).toNat < g.Nons.length
    · rcases List.mem_or_eq_of_mem_set hr with hr | rfl
      · exact h.t r hr
      · rw [folRow_len, h.row hn]
    · rw [List.set_eq_of_length_le (by rw [h.n]; omega)] at hr
      exact h.t r hr
theorem FInv.i {g : Gram} {F : List (List Bool)} (h : FInv g F) (i : Nat) : ∀ k, FInv g (folI g F i k)
  | 0 => h
  | k + 1 => by rw [folI_succ]; exact (h.i i k).step _
theorem FInv.p {g : Gram} {F : List (List Bool)} (h : FInv g F) : ∀ n, FInv g (folP g F n)
  | 0 => h
  | n + 1 => by rw [folP_succ]; exact (h.p n).i _ _
theorem FInv.zero (g : Gram) : FInv g (fol0 g) := by
  refine ⟨by unfold fol0; simp, fun r hr => ?_⟩
  unfold fol0 at hr
  rcases List.mem_or_eq_of_mem_set hr with hr | rfl
  · rw [List.mem_replicate] at hr; rw [hr.2]; simp
  · simp
theorem FInv.it {g : Gram} (n : Nat) : FInv g (it (folRound g) n (fol0 g)) := it_inv (I := FInv g) (fun F h => h.p _) (FInv.zero g) n

/-! ### one column -/
def colA (a : Nat) (F : List (List Bool)) : List Bool := F.map fun r => r.getD a false
theorem colA_get (a : Nat) (F : List (List Bool)) (n : Nat) : (colA a F).getD n false = (F.getD n []).getD a false := by
  unfold colA
  rw [List.getD_eq_getElem?_getD, List.getElem?_map, List.getD_eq_getElem?_getD (l := F)]
  cases F[n]? <;> rfl
def colStep (g : Gram) (a : Nat) (c : List Bool) (ik : Nat × Nat) : List Bool :=
  if symR g ik.1 ik.2 < g.Terms.length then c
  else c.set (symR g ik.1 ik.2 - g.Terms.length).toNat (c.getD (symR g ik.1 ik.2 - g.Terms.length).toNat false || ((sufT g ik.1 ik.2).1.getD a false || ((sufT g ik.1 ik.2).2 && c.getD (lefN g ik.1) false)))
def pairs (g : Gram) : List (Nat × Nat) := (List.range g.Prods.length).flatMap fun (i : Nat) => (List.range (prd g i).Right.length).map fun k => (i, k)
theorem col_step {g : Gram} {F : List (List Bool)} (h : FInv g F) {a : Nat} (ha : a < g.Terms.length) (ik : Nat × Nat) : colA a (folStep g F ik) = colStep g a (colA a F) ik := by
  unfold folStep colStep
  split
  · rfl
  · rw [colA_get, colA_get]
    by_cases hn : (symR g ik.1 ik.2 - g.Terms.length).toNat < g.Nons.length
    · unfold colA
      rw [List.map_set, folRow_get (by rw [h.row hn]; exact ha), decide_eq_true ha, Bool.true_and]
    · rw [List.set_eq_of_length_le (by rw [h.n]; omega), List.set_eq_of_length_le (by unfold colA; rw [List.length_map, h.n]; omega)]
theorem col_fold {g : Gram} {a : Nat} (ha : a < g.Terms.length) : ∀ (l : List (Nat × Nat)) {F : List (List Bool)}, FInv g F → colA a (l.foldl (folStep g) F) = l.foldl (colStep g a) (colA a F)
  | [], _, _ => rfl
  | ik :: l, F, h => by
    show colA a (l.foldl (folStep g) (folStep g F ik)) = l.foldl (colStep g a) (colStep g a (colA a F) ik)
    rw [col_fold ha l (h.step ik), col_step h ha]
theorem folI_fold (g : Gram) (F : List (List Bool)) (i k : Nat) : folI g F i k = ((List.range k).map fun k => (i, k)).foldl (folStep g) F := by unfold folI; rw [List.foldl_map]
theorem folP_fold (g : Gram) (F : List (List Bool)) : ∀ n, folP g F n = ((List.range n).flatMap fun (i : Nat) => (List.range (prd g i).Right.length).map fun k => (i, k)).foldl (folStep g) F
  | 0 => rfl
  | n + 1 => by rw [folP_succ, folP_fold g F n, folI_fold, List.range_succ, List.flatMap_append, List.foldl_append]; simp
def colRound (g : Gram) (a : Nat) (c : List Bool) : List Bool := (pairs g).foldl (colStep g a) c
theorem col_round {g : Gram} {a : Nat} (ha : a < g.Terms.length) {F : List (List Bool)} (h : FInv g F) : colA a (folRound g F) = colRound g a (colA a F) := by
  unfold folRound
  rw [folP_fold]; exact col_fold ha _ h
theorem col_it {g : Gram} {a : Nat} (ha : a < g.Terms.length) : ∀ n, colA a (it (folRound g) n (fol0 g)) = it (colRound g a) n (colA a (fol0 g))
  | 0 => rfl
  | n + 1 => by rw [it_succ, it_succ, col_round ha (FInv.it n), col_it ha n]

theorem set_up (c : List Bool) (n : Nat) (b : Bool) : c.set n (c.getD n false || b) = c ∨ cnt c < cnt (c.set n (c.getD n false || b)) := by
  cases hb : c.getD n false || b with
  | false =>
    simp only [Bool.or_eq_false_iff] at hb
    refine .inl ?_
    apply List.ext_getElem?
    intro j
    rw [List.getElem?_set]
    split
    · rename_i e; subst e
      split
      · rename_i hl
        have := hb.1
        rw [List.getD_eq_getElem?_getD, List.getElem?_eq_getElem hl] at this
        rw [List.getElem?_eq_getElem hl]; simp at this; rw [this]
      · rename_i hl; rw [List.getElem?_eq_none (by omega)]
    · rfl
  | true =>
    by_cases h : c[n]? = some false
    · exact .inr (by rw [cnt_set h]; omega)
    · exact .inl (set_true h)
theorem colStep_up (g : Gram) (a : Nat) (c : List Bool) (ik : Nat × Nat) : colStep g a c ik = c ∨ cnt c < cnt (colStep g a c ik) := by
  unfold colStep
  split
  · exact .inl rfl
  · exact set_up c _ _
theorem fold_up {α β : Type} {f : β → α → β} {μ : β → Nat} (hf : ∀ b a, f b a = b ∨ μ b < μ (f b a)) : ∀ (l : List α) (b : β), l.foldl f b = b ∨ μ b < μ (l.foldl f b)
  | [], _ => .inl rfl
  | a :: l, b => by
    show l.foldl f (f b a) = b ∨ μ b < μ (l.foldl f (f b a))
    rcases hf b a with h | h
    · rw [h]; exact fold_up hf l b
    · rcases fold_up hf l (f b a) with h2 | h2
      · rw [h2]; exact .inr h
      · exact .inr (by omega)
theorem fold_fix {α β : Type} {f : β → α → β} {μ : β → Nat} (hf : ∀ b a, f b a = b ∨ μ b < μ (f b a)) : ∀ (l : List α) (b : β), l.foldl f b = b → ∀ a ∈ l, f b a = b
  | [], _, _, a, ha => by cases ha
  | x :: l, b, h, a, ha => by
    have h1 : l.foldl f (f b x) = b := h
    have hx : f b x = b := by
      rcases hf b x with h2 | h2
      · exact h2
      · rcases fold_up hf l (f b x) with h3 | h3
        · rw [h1] at h3; exact h3.symm
        · rw [h1] at h3; omega
    rw [hx] at h1
    rcases List.mem_cons.1 ha with rfl | ha
    · exact hx
    · exact fold_fix hf l b h1 a ha
theorem colStep_len (g : Gram) (a : Nat) (c : List Bool) (ik : Nat × Nat) : (colStep g a c ik).length = c.length := by unfold colStep; split <;> simp
theorem colRound_len (g : Gram) (a : Nat) (c : List Bool) : (colRound g a c).length = c.length := by
  unfold colRound
  have : ∀ (l : List (Nat × Nat)) (c : List Bool), (l.foldl (colStep g a) c).length = c.length := by
    intro l
    induction l with
    | nil => exact fun _ => rfl
    | cons x l ih => intro c; show (l.foldl (colStep g a) (colStep g a c x)).length = _; rw [ih, colStep_len]
  exact this _ _

theorem fol_fix {g : Gram} {a : Nat} (ha : a < g.Terms.length) : colRound g a (colA a (folFin g)) = colA a (folFin g) := by
  unfold folFin
  rw [col_it ha]
  exact it_stable (I := fun c : List Bool => c.length = g.Nons.length) (μ := cnt) (N := g.Nons.length) (fun c h => by rw [colRound_len]; exact h)
    (fun c _ hne => by rcases fold_up (colStep_up g a) (pairs g) c with h | h; exact absurd h hne; exact h) (fun c h => h ▸ cnt_le c) (by unfold colA fol0; simp) (Nat.lt_succ_self _)

/-- What comes of names and terms behind them is behind names. -/
theorem fol_closed {g : Gram} {i k a n : Nat} (hi : i < g.Prods.length) (hk : k < (prd g i).Right.length) (hs : symR g i k = (g.Terms.length : Int) + n) (hn : n < g.Nons.length) (ha : a < g.Terms.length)
    (h : (sufT g i k).1.getD a false = true ∨ ((sufT g i k).2 = true ∧ folB g (lefN g i) a = true)) : folB g n a = true := by
  have hm : (i, k) ∈ pairs g := by
    unfold pairs
    rw [List.mem_flatMap]
    exact ⟨i, List.mem_range.2 hi, List.mem_map.2 ⟨k, List.mem_range.2 hk, rfl⟩⟩
  have h1 := fold_fix (colStep_up g a) (pairs g) _ (fol_fix ha) (i, k) hm
  unfold colStep at h1
  have e1 : ((i, k) : Nat × Nat).1 = i := rfl
  have e2 : ((i, k) : Nat × Nat).2 = k := rfl
  rw [e1, e2] at h1
  rw [hs, if_neg (by omega), show ((g.Terms.length : Int) + n - g.Terms.length).toNat = n by omega] at h1
  have hl : n < (colA a (folFin g)).length := by unfold colA folFin; rw [List.length_map, (FInv.it _).n]; exact hn
  have h2 : List.getD _ n false = List.getD _ n false := congrArg (fun c : List Bool => c.getD n false) h1
  rw [List.getD_eq_getElem?_getD, List.getElem?_set_self hl, Option.getD_some, colA_get, colA_get] at h2
  unfold folB
  rw [← h2]
  rcases h with h | ⟨h, h3⟩
  · rw [h]; simp
  · rw [h]; unfold folB at h3; rw [h3]; simp

theorem fol_first {g : Gram} (hn : 0 < g.Nons.length) (ht : 0 < g.Terms.length) : folB g 0 0 = true := by
  have : ∀ n, (colA 0 (it (folRound g) n (fol0 g))).getD 0 false = true := by
    intro n
    rw [col_it ht]
    refine it_inv (I := fun c : List Bool => c.getD 0 false = true) (fun c h => ?_) ?_ n
    · have keep : ∀ (l : List (Nat × Nat)) (c : List Bool), c.getD 0 false = true → (l.foldl (colStep g 0) c).getD 0 false = true := by
        intro l
        induction l with
        | nil => exact fun _ h => h
        | cons x l ih =>
          intro c h
          refine ih _ ?_
          unfold colStep
          split
          · exact h
          · by_cases e : (symR g x.1 x.2 - g.Terms.length).toNat = 0
            · rw [e, h]
              have hl : 0 < c.length := getD_lt h
              rw [List.getD_eq_getElem?_getD, List.getElem?_set_self hl]; rfl
            · rw [List.getD_eq_getElem?_getD, List.getElem?_set_ne e, ← List.getD_eq_getElem?_getD]; exact h
      exact keep _ _ h
    · rw [colA_get]
      unfold fol0
      rw [List.getD_eq_getElem?_getD (l := List.set _ 0 (List.set _ 0 true)), List.getElem?_set_self (by simpa using hn), Option.getD_some, List.getD_eq_getElem?_getD, List.getElem?_set_self (by simpa using ht)]; rfl
  have := this (g.Nons.length + 1)
  rw [colA_get] at this
  exact this

/-- What is behind the symbol behind a dot, and where the dot is. -/
theorem dot_at {g : Gram} {x : Itm} (hx : inG g x = true) (hd : x.Dot ≠ (prd g x.Prod).Right.length) : ∃ i k : Nat, x = ⟨i, k⟩ ∧ i < g.Prods.length ∧ k < (prd g i).Right.length ∧ symR g i k = beh g x ∧ sufT g i k = rowT g.Terms.length (bFix g) (restL g x) := by
  obtain ⟨p, d⟩ := x
  unfold inG at hx
  simp only [Bool.and_eq_true, decide_eq_true_eq] at hx hd
  obtain ⟨i, rfl⟩ : ∃ i : Nat, p = (i : Int) := ⟨p.toNat, by omega⟩
  obtain ⟨k, rfl⟩ : ∃ k : Nat, d = (k : Int) := ⟨d.toNat, by omega⟩
  refine ⟨i, k, rfl, by omega, by omega, ?_, ?_⟩
  · unfold symR beh
    simp only
    rw [if_pos (by omega), Int.toNat_natCast]
  · unfold sufT sufR restL
    simp only [Int.toNat_natCast]

/-- A term behind a place is behind the production's name. -/
theorem la_fol {g : Gram} {KS : List (List Itm)} {GS : List (List Int)} (hF : GoF g KS GS) (h0 : (prd g 0).Left = 0) (hn : 0 < g.Nons.length) (ht : 0 < g.Terms.length) {p : Plc} {t : Nat} (h : LA g GS p t) :
    t < g.Terms.length → folB g (lefN g p.x.Prod.toNat) t = true := by
  induction h with
  | base =>
    intro _
    have : lefN g (p00.x.Prod.toNat) = 0 := by unfold lefN; show (prd g 0).Left.toNat = 0; rw [h0]; rfl
    rw [this]; exact fol_first hn ht
  | step hp hc ih =>
    intro hu
    have hvp := la_vp hF hp
    have hin := hvp.in_ hF
    cases hc with
    | shift hd => exact ih hu
    | close hd hb hk hl hr =>
      rename_i p t u k
      obtain ⟨i, d, hx, hi, hdl, hs, hsu⟩ := dot_at hin hd
      obtain ⟨n, hnk⟩ : ∃ n : Nat, (prd g k).Left = (n : Int) := ⟨(prd g k).Left.toNat, by have := (prod_ok hF.wf hk).1; rw [prd_at hk]; omega⟩
      have hnl : n < g.Nons.length := by have := (prod_ok hF.wf hk).2.1; rw [← prd_at hk] at this; omega
      have hlef : lefN g (Itm.Prod ⟨(k : Int), 0⟩).toNat = n := by unfold lefN; simp only [Int.toNat_natCast]; rw [hnk]; rfl
      show folB g (lefN g (Itm.Prod ⟨(k : Int), 0⟩).toNat) u = true
      rw [hlef]
      refine fol_closed hi hdl (by rw [hs]; omega) hnl hu ?_
      rw [hsu]
      rcases hr with hr | ⟨hr, rfl⟩
      · refine .inl ?_
        unfold restB at hr
        rw [List.getD_eq_getElem?_getD, List.getElem?_append_left (by rw [rowT_len]; exact hu), ← List.getD_eq_getElem?_getD] at hr
        exact hr
      · refine .inr ⟨hr, ?_⟩
        have := ih hu
        rw [hx] at this
        simpa using this

end Go.Proofs.YtcbaebkkdkdaaaaDoor
