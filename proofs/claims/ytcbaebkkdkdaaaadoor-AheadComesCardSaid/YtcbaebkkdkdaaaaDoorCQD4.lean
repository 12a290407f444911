/-
  Plain: canonical items, closed, and gone on to.
-/
import Derived.Test.YtcbaebkkdkdaaaaDoorCQD1
import Derived.Test.YtcbaebkkdkdaaaaDoorAhBase4

namespace Go.Proofs.YtcbaebkkdkdaaaaDoor
set_option linter.all false
open Go.Proofs.YtcbaebkkdkdaaaaDoor.E

/-- What comes of a canonical item, at once, in its state. -/
def Nx (g : Gram) (o o' : On) : Prop := ∃ k u : Nat, o' = ⟨⟨k, 0⟩, u⟩ ∧ k < g.Prods.length ∧ u < g.Terms.length ∧ o.x.Dot ≠ (prd g o.x.Prod).Right.length ∧ ¬ beh g o.x < g.Terms.length ∧ (prd g k).Left = beh g o.x - g.Terms.length ∧
  ((restB g o.x).getD u false = true ∨ (restN g o.x = true ∧ (u : Int) = o.t))
inductive C1 (g : Gram) (l : List On) : On → Prop
  | base {o : On} : o ∈ l → C1 g l o
  | step {o o' : On} : C1 g l o → Nx g o o' → C1 g l o'

structure OnOk (g : Gram) (o : On) : Prop where
  x : inG g o.x = true
  t0 : 0 ≤ o.t
  t : o.t < g.Terms.length

structure Cst where
  out : List On
  todo : List On
def addC (st : Cst) (o : On) : Cst := ⟨putO st.out o, if o ∈ st.out then st.todo else st.todo ++ [o]⟩
def stepT (b : List Bool) (k : Nat) (st : Cst) (m : Nat) : Cst := (List.range m).foldl (fun st (t : Nat) => if b.getD t false then addC st ⟨⟨k, 0⟩, t⟩ else st) st
def stKC (g : Gram) (sy : Int) (b : List Bool) (st : Cst) (m : Nat) : Cst := (List.range m).foldl (fun st (k : Nat) => if (prd g k).Left = sy - g.Terms.length then stepT b k st g.Terms.length else st) st
theorem stepT_succ (b : List Bool) (k : Nat) (st : Cst) (m : Nat) : stepT b k st (m + 1) = if b.getD m false then addC (stepT b k st m) ⟨⟨k, 0⟩, m⟩ else stepT b k st m := by unfold stepT; rw [List.range_succ, List.foldl_append]; rfl
theorem stKC_succ (g : Gram) (sy : Int) (b : List Bool) (st : Cst) (m : Nat) : stKC g sy b st (m + 1) = if (prd g m).Left = sy - g.Terms.length then stepT b m (stKC g sy b st m) g.Terms.length else stKC g sy b st m := by unfold stKC; rw [List.range_succ, List.foldl_append]; rfl

/-- In the midst of a round; p is what was taken out. -/
structure CH (g : Gram) (l : List On) (p : On) (st : Cst) : Prop where
  sort : SortO st.out
  sound : ∀ o ∈ st.out, C1 g l o
  sub : ∀ o ∈ st.todo, o ∈ st.out
  base : ∀ o ∈ l, o ∈ st.out
  ok : ∀ o ∈ st.out, OnOk g o
  comp : ∀ o ∈ st.out, o ∈ st.todo ∨ o = p ∨ ∀ o', Nx g o o' → o' ∈ st.out

theorem CH.add {g : Gram} {l : List On} {p : On} {st : Cst} (h : CH g l p st) {o : On} (ho : C1 g l o) (hok : OnOk g o) : CH g l p (addC st o) where
  sort := putO_sort h.sort
  sound q hq := by
    rcases putO_mem.1 hq with hq | rfl
    · exact h.sound q hq
    · exact ho
  sub q hq := by
    have hq : q ∈ (if o ∈ st.out then st.todo else st.todo ++ [o]) := hq
    refine putO_mem.2 ?_
    split at hq
    · exact .inl (h.sub q hq)
    · rcases List.mem_append.1 hq with hq | hq
      · exact .inl (h.sub q hq)
      · exact .inr (List.mem_singleton.1 hq)
  base q hq := putO_mem.2 (.inl (h.base q hq))
  ok q hq := by
    rcases putO_mem.1 hq with hq | rfl
    · exact h.ok q hq
    · exact hok
  comp q hq := by
    show q ∈ (if o ∈ st.out then st.todo else st.todo ++ [o]) ∨ q = p ∨ ∀ o', Nx g q o' → o' ∈ putO st.out o
    by_cases hin : q ∈ st.out
    · rcases h.comp q hin with h1 | h1 | h1
      · refine .inl ?_
        split
        · exact h1
        · exact List.mem_append_left _ h1
      · exact .inr (.inl h1)
      · exact .inr (.inr fun o' hn => putO_mem.2 (.inl (h1 o' hn)))
    · rcases putO_mem.1 hq with hq | rfl
      · exact absurd hq hin
      · refine .inl ?_
        rw [if_neg hin]; simp

/-- The places that can be new. -/
def univC (g : Gram) : List On := (List.range g.Prods.length).flatMap fun (k : Nat) => (List.range g.Terms.length).map fun (t : Nat) => (⟨⟨k, 0⟩, t⟩ : On)
theorem univC_mem {g : Gram} {k t : Nat} (hk : k < g.Prods.length) (ht : t < g.Terms.length) : (⟨⟨k, 0⟩, t⟩ : On) ∈ univC g := by
  unfold univC
  rw [List.mem_flatMap]
  exact ⟨k, List.mem_range.2 hk, List.mem_map.2 ⟨t, List.mem_range.2 ht, rfl⟩⟩
theorem univC_len (g : Gram) : (univC g).length = g.Prods.length * g.Terms.length := by
  unfold univC
  have : ∀ n : Nat, ((List.range n).flatMap fun (k : Nat) => (List.range g.Terms.length).map fun (t : Nat) => (⟨⟨k, 0⟩, t⟩ : On)).length = n * g.Terms.length := by
    intro n
    induction n with
    | zero => simp
    | succ n ih => rw [List.range_succ, List.flatMap_append, List.length_append, ih]; simp [Nat.succ_mul]
  exact this _
def missC (g : Gram) (out : List On) : Nat := (univC g).countP fun o => decide (o ∉ out)
def measC (g : Gram) (st : Cst) : Nat := 2 * missC g st.out + st.todo.length

theorem countP_lt {α : Type} {p q : α → Bool} (h : ∀ x, q x = true → p x = true) {y : α} : ∀ {l : List α}, y ∈ l → p y = true → q y = false → l.countP q + 1 ≤ l.countP p
  | x :: l, hm, hp, hq => by
    have hle : l.countP q ≤ l.countP p := List.countP_mono_left (fun x _ => h x)
    rw [List.countP_cons, List.countP_cons]
    rcases List.mem_cons.1 hm with rfl | hm
    · rw [hp, hq]; simp; omega
    · have := countP_lt h hm hp hq
      cases hqx : q x with
      | true => rw [h x hqx]; simp; omega
      | false => cases p x <;> simp <;> omega

theorem measC_add {g : Gram} {st : Cst} (hs : SortO st.out) {k t : Nat} (hk : k < g.Prods.length) (ht : t < g.Terms.length) : measC g (addC st ⟨⟨k, 0⟩, t⟩) ≤ measC g st := by
  unfold measC addC
  simp only
  by_cases h : (⟨⟨k, 0⟩, t⟩ : On) ∈ st.out
  · rw [if_pos h, putO_old hs h]; exact Nat.le_refl _
  · rw [if_neg h]
    have : missC g (putO st.out ⟨⟨k, 0⟩, t⟩) + 1 ≤ missC g st.out := by
      unfold missC
      refine countP_lt (fun x hx => ?_) (univC_mem hk ht) (by simpa using h) (by simpa using putO_mem.2 (.inr rfl))
      simp only [decide_eq_true_eq, putO_mem, not_or] at hx ⊢
      exact hx.1
    rw [List.length_append, List.length_singleton]; omega

theorem nx_ok {g : Gram} {o : On} {k u : Nat} (hk : k < g.Prods.length) (hu : u < g.Terms.length) : OnOk g ⟨⟨k, 0⟩, u⟩ := by
  refine ⟨?_, by simp only; omega, by simp only; omega⟩
  unfold inG
  simp only [Bool.and_eq_true, decide_eq_true_eq]
  omega

theorem stepT_ok {g : Gram} {l : List On} {p : On} {b : List Bool} {k : Nat} (hk : k < g.Prods.length) (hc : ∀ t : Nat, t < g.Terms.length → b.getD t false = true → C1 g l ⟨⟨k, 0⟩, t⟩) {st : Cst} (h : CH g l p st) : ∀ m, m ≤ g.Terms.length →
    CH g l p (stepT b k st m) ∧ measC g (stepT b k st m) ≤ measC g st ∧ (∀ o ∈ st.out, o ∈ (stepT b k st m).out) ∧ ∀ t : Nat, t < m → b.getD t false = true → (⟨⟨k, 0⟩, t⟩ : On) ∈ (stepT b k st m).out
  | 0, _ => ⟨h, Nat.le_refl _, fun _ h => h, fun t ht => by omega⟩
  | m + 1, hm => by
    obtain ⟨h1, h2, h3, h4⟩ := stepT_ok hk hc h m (by omega)
    rw [stepT_succ]
    split
    · rename_i hb
      refine ⟨h1.add (hc m (by omega) hb) (nx_ok (o := p) hk (by omega)), Nat.le_trans (measC_add h1.sort hk (by omega)) h2, fun o ho => putO_mem.2 (.inl (h3 o ho)), fun t ht hbt => ?_⟩
      by_cases e : t = m
      · subst e; exact putO_mem.2 (.inr rfl)
      · exact putO_mem.2 (.inl (h4 t (by omega) hbt))
    · rename_i hb
      refine ⟨h1, h2, h3, fun t ht hbt => ?_⟩
      by_cases e : t = m
      · subst e; exact absurd hbt hb
      · exact h4 t (by omega) hbt

theorem stKC_ok {g : Gram} {l : List On} {p : On} {b : List Bool} {sy : Int} (hc : ∀ k t : Nat, k < g.Prods.length → t < g.Terms.length → (prd g k).Left = sy - g.Terms.length → b.getD t false = true → C1 g l ⟨⟨k, 0⟩, t⟩) {st : Cst} (h : CH g l p st) : ∀ m, m ≤ g.Prods.length →
    CH g l p (stKC g sy b st m) ∧ measC g (stKC g sy b st m) ≤ measC g st ∧ (∀ o ∈ st.out, o ∈ (stKC g sy b st m).out) ∧ ∀ k t : Nat, k < m → t < g.Terms.length → (prd g k).Left = sy - g.Terms.length → b.getD t false = true → (⟨⟨k, 0⟩, t⟩ : On) ∈ (stKC g sy b st m).out
  | 0, _ => ⟨h, Nat.le_refl _, fun _ h => h, fun k t hk => by omega⟩
  | m + 1, hm => by
    obtain ⟨h1, h2, h3, h4⟩ := stKC_ok hc h m (by omega)
    rw [stKC_succ]
    split
    · rename_i hl
      obtain ⟨e1, e2, e3, e4⟩ := stepT_ok (k := m) (by omega) (fun t ht hb => hc m t (by omega) ht hl hb) h1 g.Terms.length (Nat.le_refl _)
      refine ⟨e1, Nat.le_trans e2 h2, fun o ho => e3 o (h3 o ho), fun k t hk ht hlk hb => ?_⟩
      by_cases e : k = m
      · subst e; exact e4 t ht hb
      · exact e3 _ (h4 k t (by omega) ht hlk hb)
    · rename_i hl
      refine ⟨h1, h2, h3, fun k t hk ht hlk hb => ?_⟩
      by_cases e : k = m
      · subst e; exact absurd hlk hl
      · exact h4 k t (by omega) ht hlk hb

/-- Between rounds. -/
structure CW (g : Gram) (l : List On) (st : Cst) : Prop where
  sort : SortO st.out
  sound : ∀ o ∈ st.out, C1 g l o
  sub : ∀ o ∈ st.todo, o ∈ st.out
  base : ∀ o ∈ l, o ∈ st.out
  ok : ∀ o ∈ st.out, OnOk g o
  comp : ∀ o ∈ st.out, o ∈ st.todo ∨ ∀ o', Nx g o o' → o' ∈ st.out

theorem CW.of {g : Gram} {l : List On} {p : On} {st : Cst} (h : CH g l p st) (hp : ∀ o', Nx g p o' → o' ∈ st.out) : CW g l st :=
  ⟨h.sort, h.sound, h.sub, h.base, h.ok, fun o ho => by
    rcases h.comp o ho with h1 | rfl | h1
    · exact .inl h1
    · exact .inr hp
    · exact .inr h1⟩
theorem CW.pop {g : Gram} {l : List On} {st : Cst} (h : CW g l st) {p : On} (hp : st.todo.getLast? = some p) : CH g l p ⟨st.out, st.todo.dropLast⟩ := by
  obtain ⟨ys, hys⟩ := List.getLast?_eq_some_iff.1 hp
  have hdl : st.todo.dropLast = ys := by rw [hys, List.dropLast_concat]
  refine ⟨h.sort, h.sound, fun o ho => h.sub o (List.dropLast_subset _ ho), h.base, h.ok, fun o ho => ?_⟩
  rcases h.comp o ho with h1 | h1
  · rw [hys] at h1
    rcases List.mem_append.1 h1 with h1 | h1
    · refine .inl ?_; show o ∈ st.todo.dropLast; rw [hdl]; exact h1
    · exact .inr (.inl (List.mem_singleton.1 h1))
  · exact .inr (.inr h1)
theorem CW.done {g : Gram} {l : List On} {st : Cst} (h : CW g l st) (he : st.todo = []) (o : On) : o ∈ st.out ↔ C1 g l o := by
  refine ⟨h.sound o, fun hc => ?_⟩
  induction hc with
  | base hm => exact h.base _ hm
  | step _ hn ih =>
    rcases h.comp _ ih with h1 | h1
    · rw [he] at h1; cases h1
    · exact h1 _ hn

theorem foldl_putO : ∀ (l acc : List On), SortO acc → SortO (l.foldl putO acc) ∧ ∀ x, x ∈ l.foldl putO acc ↔ x ∈ acc ∨ x ∈ l
  | [], acc, h => ⟨h, fun x => by simp⟩
  | y :: l, acc, h => by
    obtain ⟨h1, h2⟩ := foldl_putO l (putO acc y) (putO_sort h)
    refine ⟨h1, fun x => ?_⟩
    rw [List.foldl_cons, h2 x, putO_mem, List.mem_cons]
    exact ⟨fun h => h.elim (fun h => h.elim .inl (fun h => .inr (.inl h))) (fun h => .inr (.inr h)), fun h => h.elim (fun h => .inl (.inl h)) (fun h => h.elim (fun h => .inl (.inr h)) .inr)⟩

def outC (l : List On) (m : Nat) : List On := (l.take m).foldl putO []
theorem outC_succ {l : List On} {m : Nat} (h : m < l.length) : outC l (m + 1) = putO (outC l m) l[m] := by unfold outC; rw [List.take_succ_eq_append_getElem h, List.foldl_append]; rfl
theorem outC_all (l : List On) : SortO (outC l l.length) ∧ ∀ o, o ∈ outC l l.length ↔ o ∈ l := by
  have := foldl_putO l [] List.Pairwise.nil
  unfold outC
  rw [List.take_length]
  exact ⟨this.1, fun o => by rw [this.2 o]; simp⟩
theorem outC_len (l : List On) : ∀ m, (outC l m).length ≤ m
  | 0 => by unfold outC; simp
  | m + 1 => by
    by_cases h : m < l.length
    · rw [outC_succ h]
      have := outC_len l m
      have h2 : ∀ (l : List On) (o : On), (putO l o).length ≤ l.length + 1 := by
        intro l o
        induction l with
        | nil => simp [putO]
        | cons y l ih => unfold putO; split <;> simp; omega; split <;> simp
      have := h2 (outC l m) l[m]
      omega
    · have : outC l (m + 1) = outC l m := by unfold outC; rw [List.take_of_length_le (by omega), List.take_of_length_le (by omega)]
      rw [this]; have := outC_len l m; omega
theorem CW.start {g : Gram} {l : List On} (hl : ∀ o ∈ l, OnOk g o) : CW g l ⟨outC l l.length, l⟩ := by
  obtain ⟨h1, h2⟩ := outC_all l
  exact ⟨h1, fun o ho => .base ((h2 o).1 ho), fun o ho => (h2 o).2 ho, fun o ho => (h2 o).2 ho, fun o ho => hl o ((h2 o).1 ho), fun o ho => .inl ((h2 o).1 ho)⟩

/-! ### gone on to -/
def advO (o : On) : On := ⟨⟨o.x.Prod, o.x.Dot + 1⟩, o.t⟩
def goesT (g : Gram) (l : List On) (s : Int) (m : Nat) : List On := (l.take m).foldl (fun acc o => if beh g o.x = s then putO acc (advO o) else acc) []
def goesO (g : Gram) (l : List On) (s : Int) : List On := goesT g l s l.length
theorem goesT_succ {g : Gram} {l : List On} {s : Int} {m : Nat} (h : m < l.length) : goesT g l s (m + 1) = if beh g l[m].x = s then putO (goesT g l s m) (advO l[m]) else goesT g l s m := by unfold goesT; rw [List.take_succ_eq_append_getElem h, List.foldl_append]; rfl
theorem goesT_all {g : Gram} {l : List On} {s : Int} : ∀ m, m ≤ l.length → SortO (goesT g l s m) ∧ (goesT g l s m).length ≤ m ∧ ∀ o', o' ∈ goesT g l s m ↔ ∃ o ∈ l.take m, beh g o.x = s ∧ o' = advO o
  | 0, _ => ⟨List.Pairwise.nil, Nat.le_refl _, fun o' => by unfold goesT; simp⟩
  | m + 1, hm => by
    obtain ⟨h1, h2, h3⟩ := goesT_all (g := g) (l := l) (s := s) m (by omega)
    have hlt : m < l.length := by omega
    rw [goesT_succ hlt, List.take_succ_eq_append_getElem hlt]
    have hpl : ∀ (l : List On) (o : On), (putO l o).length ≤ l.length + 1 := by
      intro l o
      induction l with
      | nil => simp [putO]
      | cons y l ih => unfold putO; split <;> simp; omega; split <;> simp
    split
    · rename_i hb
      refine ⟨putO_sort h1, by have := hpl (goesT g l s m) (advO l[m]); omega, fun o' => ?_⟩
      rw [putO_mem, h3]
      constructor
      · rintro (⟨o, ho, hx, rfl⟩ | rfl)
        · exact ⟨o, List.mem_append_left _ ho, hx, rfl⟩
        · exact ⟨l[m], List.mem_append_right _ (List.mem_singleton.2 rfl), hb, rfl⟩
      · rintro ⟨o, ho, hx, rfl⟩
        rcases List.mem_append.1 ho with ho | ho
        · exact .inl ⟨o, ho, hx, rfl⟩
        · rw [List.mem_singleton] at ho; subst ho; exact .inr rfl
    · rename_i hb
      refine ⟨h1, by omega, fun o' => ?_⟩
      rw [h3]
      constructor
      · rintro ⟨o, ho, hx, rfl⟩
        exact ⟨o, List.mem_append_left _ ho, hx, rfl⟩
      · rintro ⟨o, ho, hx, rfl⟩
        rcases List.mem_append.1 ho with ho | ho
        · exact ⟨o, ho, hx, rfl⟩
        · rw [List.mem_singleton] at ho; subst ho; exact absurd hx hb

end Go.Proofs.YtcbaebkkdkdaaaaDoor
