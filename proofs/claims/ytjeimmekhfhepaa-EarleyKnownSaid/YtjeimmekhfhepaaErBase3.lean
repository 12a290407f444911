/-
  Part 3 of what the law's walk stands on: lemmas and contracts, each proved here without a condition but those that it names.
-/
import Derived.Test.YtjeimmekhfhepaaErBase2
import Derived.Laws.Cover3
import Derived.Test.YtjeimmekhfhepaaRows

namespace Go.Proofs.Ytjeimmekhfhepaa
set_option linter.all false
open Go.Proofs.Ytjeimmekhfhepaa.E

/-- Ways of names, by places. -/
abbrev Ws := Nat → Nat → Nat → Nat
abbrev cap (n : Nat) : Nat := min n 2
/-- One symbol: from the place i, the ways to j. -/
def stepW (g : Gram) (w : List Int) (W : Ws) (s : Int) (i j : Nat) : Nat :=
  if s < g.Terms.length then (if w[i]? = some s ∧ j = i + 1 then 1 else 0) else if i ≤ j then W (s - g.Terms.length).toNat i j else 0
/-- Behind one symbol: what was now, one place after the other (the first i of them). -/
def nextI (g : Gram) (w : List Int) (W : Ws) (s : Int) (now : Nat → Nat) (j : Nat) : Nat → Nat
  | 0 => 0
  | i + 1 => cap (nextI g w W s now j i + now i * stepW g w W s i j)
def rowW (g : Gram) (w : List Int) (W : Ws) : List Int → (Nat → Nat) → Nat → Nat
  | [], now => now
  | s :: l, now => rowW g w W l (fun j => nextI g w W s now j (w.length + 1))
def unitW (i : Nat) : Nat → Nat := fun j => if j = i then 1 else 0
def rowOf (g : Gram) (w : List Int) (W : Ws) (l : List Int) (i : Nat) : Nat → Nat := rowW g w W l (unitW i)
/-- The sum over the first so many productions of a name. -/
def sumW (g : Gram) (w : List Int) (W : Ws) (a i j : Nat) : Nat → Nat
  | 0 => 0
  | q + 1 => sumW g w W a i j q + if lhs g q = (a : Int) then rowOf g w W (rhs g q) i j else 0
/-- From one place. -/
def growAt (g : Gram) (w : List Int) (W : Ws) (i : Nat) : Ws := fun a i' j =>
  if i' = i ∧ j ≤ w.length then max (W a i' j) (cap (sumW g w W a i j g.Prods.length)) else W a i' j
/-- From places n-1 .. to the front. -/
def growTo (g : Gram) (w : List Int) (W : Ws) : Nat → Ws
  | 0 => W
  | n + 1 => growTo g w (growAt g w W n) n
def growW (g : Gram) (w : List Int) (W : Ws) : Ws := growTo g w W (w.length + 1)

section
variable {g : Gram} {w : List Int}
def LeW (V W : Ws) : Prop := ∀ a i j, V a i j ≤ W a i j
theorem LeW.refl (W : Ws) : LeW W W := fun _ _ _ => Nat.le_refl _
theorem LeW.trans {U V W : Ws} (h : LeW U V) (h2 : LeW V W) : LeW U W := fun a i j => Nat.le_trans (h a i j) (h2 a i j)
theorem cap_mono {a b : Nat} (h : a ≤ b) : cap a ≤ cap b := by unfold cap; omega
theorem step_mono {V W : Ws} (h : LeW V W) (s : Int) (i j : Nat) : stepW g w V s i j ≤ stepW g w W s i j := by
  unfold stepW
  split
  · exact Nat.le_refl _
  · split
    · exact h _ _ _
    · exact Nat.le_refl _
theorem next_mono {V W : Ws} (h : LeW V W) (s : Int) {a b : Nat → Nat} (hab : ∀ i, a i ≤ b i) (j : Nat) : ∀ i, nextI g w V s a j i ≤ nextI g w W s b j i
  | 0 => Nat.le_refl _
  | i + 1 => cap_mono (Nat.add_le_add (next_mono h s hab j i) (Nat.mul_le_mul (hab i) (step_mono h s i j)))
theorem row_mono {V W : Ws} (h : LeW V W) : ∀ (l : List Int) {a b : Nat → Nat} (hab : ∀ i, a i ≤ b i) (j : Nat), rowW g w V l a j ≤ rowW g w W l b j
  | [], _, _, hab, j => hab j
  | s :: l, _, _, hab, j => row_mono h l (fun i => next_mono h s hab i _) j
theorem sum_mono {V W : Ws} (h : LeW V W) (a i j : Nat) : ∀ q, sumW g w V a i j q ≤ sumW g w W a i j q
  | 0 => Nat.le_refl _
  | q + 1 => by
    unfold sumW
    refine Nat.add_le_add (sum_mono h a i j q) ?_
    split
    · exact row_mono h _ (fun _ => Nat.le_refl _) j
    · exact Nat.le_refl _
theorem grow_le (W : Ws) (i : Nat) : LeW W (growAt g w W i) := fun a i' j => by
  unfold growAt; split
  · exact Nat.le_max_left _ _
  · exact Nat.le_refl _
theorem growTo_le (W : Ws) : ∀ n, LeW W (growTo g w W n)
  | 0 => LeW.refl W
  | n + 1 => (grow_le W n).trans (growTo_le _ n)

/-- Where nothing grows: each sum is told. -/
def FixW (g : Gram) (w : List Int) (W : Ws) : Prop := ∀ a i j, i ≤ w.length → j ≤ w.length → cap (sumW g w W a i j g.Prods.length) ≤ W a i j
theorem leW_anti {V W : Ws} (h : LeW V W) (h2 : LeW W V) : V = W := by
  funext a i j; exact Nat.le_antisymm (h a i j) (h2 a i j)
theorem fix_of {W : Ws} (h : growW g w W = W) : FixW g w W := by
  have key : ∀ n, growTo g w W n = W → ∀ i, i < n → growAt g w W i = W := by
    intro n
    induction n with
    | zero => intro _ i hi; omega
    | succ n ih =>
      intro hn i hi
      have h1 : growTo g w (growAt g w W n) n = W := hn
      have h2 : growAt g w W n = W := leW_anti (by have := growTo_le (g := g) (w := w) (growAt g w W n) n; rw [h1] at this; exact this) (grow_le W n)
      rw [h2] at h1
      by_cases e : i = n
      · subst e; exact h2
      · exact ih h1 i (by omega)
  intro a i j hi hj
  have h1 := key _ h i (by omega)
  have h2 := congrFun (congrFun (congrFun h1 a) i) j
  unfold growAt at h2
  rw [if_pos ⟨rfl, hj⟩] at h2
  omega

/-! ### ways are derivations -/
/-- All that is told is derived. -/
def Tru (g : Gram) (w : List Int) (W : Ws) : Prop := ∀ a i j, 0 < W a i j → i ≤ j ∧ ∃ q, q < g.Prods.length ∧ lhs g q = (a : Int) ∧ Dr g w (rhs g q) i j
theorem next_pos {W : Ws} {s : Int} {now : Nat → Nat} {j : Nat} : ∀ {n : Nat}, 0 < nextI g w W s now j n → ∃ i, i < n ∧ 0 < now i ∧ 0 < stepW g w W s i j
  | 0, h => absurd h (Nat.lt_irrefl 0)
  | n + 1, h => by
    unfold nextI cap at h
    by_cases h1 : 0 < nextI g w W s now j n
    · obtain ⟨i, h2, h3⟩ := next_pos h1
      exact ⟨i, by omega, h3⟩
    · have h2 : 0 < now n * stepW g w W s n j := by omega
      exact ⟨n, by omega, Nat.pos_of_mul_pos_right h2, Nat.pos_of_mul_pos_left h2⟩
theorem Dr.le {l : List Int} {i j : Nat} (h : Dr g w l i j) : i ≤ j := by
  induction h with
  | nil => exact Nat.le_refl _
  | term _ _ _ ih => omega
  | non _ _ _ _ _ ih1 ih2 => omega
theorem step_dr {W : Ws} (hW : Tru g w W) {s : Int} (hs : 0 ≤ s) {i j : Nat} (h : 0 < stepW g w W s i j) : Dr g w [s] i j := by
  unfold stepW at h
  split at h
  · rename_i ht
    split at h
    · rename_i h2
      obtain ⟨h2, rfl⟩ := h2
      exact .term ht h2 .nil
    · omega
  · rename_i ht
    split at h
    · obtain ⟨_, q, h2, h3, h4⟩ := hW _ _ _ h
      exact .non ht h2 (by rw [h3]; omega) h4 .nil
    · omega
theorem row_dr {W : Ws} (hW : Tru g w W) : ∀ {l : List Int} (hs : ∀ s ∈ l, 0 ≤ s) {now : Nat → Nat} {j : Nat}, 0 < rowW g w W l now j → ∃ i, 0 < now i ∧ Dr g w l i j
  | [], _, _, j, h => ⟨j, h, .nil⟩
  | s :: l, hs, now, j, h => by
    obtain ⟨m, h1, h2⟩ := row_dr hW (l := l) (fun x hx => hs x (List.mem_cons_of_mem _ hx)) h
    obtain ⟨i, _, h3, h4⟩ := next_pos h1
    exact ⟨i, h3, (step_dr hW (hs s (List.mem_cons_self ..)) h4).app h2⟩
theorem sum_pos {W : Ws} {a i j : Nat} : ∀ {n : Nat}, 0 < sumW g w W a i j n → ∃ q, q < n ∧ lhs g q = (a : Int) ∧ 0 < rowOf g w W (rhs g q) i j
  | 0, h => absurd h (Nat.lt_irrefl 0)
  | n + 1, h => by
    unfold sumW at h
    by_cases h1 : 0 < sumW g w W a i j n
    · obtain ⟨q, h2, h3⟩ := sum_pos h1
      exact ⟨q, by omega, h3⟩
    · split at h
      · rename_i h2; exact ⟨n, by omega, h2, by omega⟩
      · omega
theorem Tru.at {W : Ws} (hs : ∀ q, q < g.Prods.length → ∀ s ∈ rhs g q, 0 ≤ s) (hW : Tru g w W) (i : Nat) : Tru g w (growAt g w W i) := fun a i' j h => by
  unfold growAt at h
  split at h
  · rename_i h1
    obtain ⟨rfl, _⟩ := h1
    by_cases h2 : 0 < W a i' j
    · exact hW _ _ _ h2
    · have h3 : 0 < sumW g w W a i' j g.Prods.length := by unfold cap at h; omega
      obtain ⟨q, h4, h5, h6⟩ := sum_pos h3
      obtain ⟨m, h7, h8⟩ := row_dr hW (hs q h4) h6
      have : m = i' := by unfold unitW at h7; split at h7; assumption; omega
      subst this
      exact ⟨h8.le, q, h4, h5, h8⟩
  · exact hW _ _ _ h
theorem Tru.to (hs : ∀ q, q < g.Prods.length → ∀ s ∈ rhs g q, 0 ≤ s) : ∀ (n : Nat) {W : Ws}, Tru g w W → Tru g w (growTo g w W n)
  | 0, _, h => h
  | n + 1, _, h => Tru.to hs n (h.at hs n)

/-- Where nothing grows, what is derived is told. -/
theorem next_mem {W : Ws} {s : Int} {now : Nat → Nat} {j i : Nat} (h1 : 0 < now i) (h2 : 0 < stepW g w W s i j) : ∀ {n : Nat}, i < n → 0 < nextI g w W s now j n
  | 0, h => absurd h (Nat.not_lt_zero _)
  | n + 1, h => by
    unfold nextI cap
    by_cases e : i = n
    · subst e
      have := Nat.mul_pos h1 h2
      omega
    · have := next_mem h1 h2 (n := n) (by omega)
      omega
theorem Dr.end_ {l : List Int} {i j : Nat} (h : Dr g w l i j) (hi : i ≤ w.length) : j ≤ w.length := by
  induction h with
  | nil => exact hi
  | @term s l i j _ h2 _ ih => exact ih (by have := (List.getElem?_eq_some_iff.1 h2).1; omega)
  | non _ _ _ _ _ ih1 ih2 => exact ih2 (ih1 hi)
theorem sum_mem {W : Ws} {a i j q : Nat} (h1 : lhs g q = (a : Int)) (h2 : 0 < rowOf g w W (rhs g q) i j) : ∀ {n : Nat}, q < n → 0 < sumW g w W a i j n
  | 0, h => absurd h (Nat.not_lt_zero _)
  | n + 1, h => by
    unfold sumW
    by_cases e : q = n
    · subst e; rw [if_pos h1]; omega
    · have := sum_mem h1 h2 (n := n) (by omega); omega
theorem fix_dr {W : Ws} (hF : FixW g w W) {l : List Int} {i j : Nat} (h : Dr g w l i j) : i ≤ w.length → ∀ {now : Nat → Nat}, 0 < now i → 0 < rowW g w W l now j := by
  induction h with
  | nil => intro _ now h; exact h
  | @term s l i j h1 h2 h3 ih =>
    intro hi now hn
    have hil := (List.getElem?_eq_some_iff.1 h2).1
    refine ih (by omega) (next_mem hn ?_ (by omega))
    unfold stepW
    rw [if_pos h1, if_pos ⟨h2, rfl⟩]; exact Nat.one_pos
  | @non s l i m j q h1 h2 h3 h4 h5 ih1 ih2 =>
    intro hi now hn
    have hm := h4.end_ hi
    have ha : ((s - g.Terms.length).toNat : Int) = s - g.Terms.length := by omega
    have h6 := ih1 hi (now := unitW i) (by unfold unitW; rw [if_pos rfl]; exact Nat.one_pos)
    have h7 := hF (s - g.Terms.length).toNat i m hi hm
    have h8 : 0 < sumW g w W (s - g.Terms.length).toNat i m g.Prods.length := sum_mem (by rw [ha]; exact h3) h6 h2
    have h9 : 0 < W (s - g.Terms.length).toNat i m := by unfold cap at h7; omega
    refine ih2 hm (next_mem hn ?_ (by omega))
    unfold stepW
    rw [if_neg h1, if_pos h4.le]; exact h9
end
end Go.Proofs.Ytjeimmekhfhepaa

namespace Go.Proofs.Ytjeimmekhfhepaa
set_option linter.all false
open Go.Proofs.Ytjeimmekhfhepaa.E

def W00 : Ws := fun _ _ _ => 0
def itW (g : Gram) (w : List Int) : Nat → Ws
  | 0 => W00
  | n + 1 => growW g w (itW g w n)
/-- Grown, until nothing grows. -/
def DoneW (g : Gram) (w : List Int) (W : Ws) : Prop := (∃ n, W = itW g w n) ∧ growW g w W = W

section
variable {g h : Gram} {w : List Int}
def Two (W : Ws) : Prop := ∀ a i j, W a i j ≤ 2
theorem Two.at {W : Ws} (hW : Two W) (i : Nat) : Two (growAt g w W i) := fun a i' j => by
  unfold growAt; split
  · have := hW a i' j; unfold cap; omega
  · exact hW _ _ _
theorem Two.to : ∀ (n : Nat) {W : Ws}, Two W → Two (growTo g w W n)
  | 0, _, h => h
  | n + 1, _, h => Two.to n (h.at n)
theorem it_two : ∀ n, Two (itW g w n)
  | 0 => fun _ _ _ => Nat.zero_le _
  | n + 1 => Two.to _ (it_two n)
theorem it_tru (hs : ∀ q, q < g.Prods.length → ∀ s ∈ rhs g q, 0 ≤ s) : ∀ n, Tru g w (itW g w n)
  | 0 => fun _ _ _ h => absurd h (Nat.lt_irrefl 0)
  | n + 1 => Tru.to hs _ (it_tru hs n)
theorem DoneW.two {W : Ws} (hW : DoneW g w W) : Two W := by obtain ⟨⟨n, rfl⟩, _⟩ := hW; exact it_two n

theorem DoneW.pos {W : Ws} (hW : DoneW g w W) (hs : ∀ q, q < g.Prods.length → ∀ s ∈ rhs g q, 0 ≤ s) {a i j : Nat} (hi : i ≤ w.length) : 0 < W a i j ↔ ∃ q, q < g.Prods.length ∧ lhs g q = (a : Int) ∧ Dr g w (rhs g q) i j := by
  obtain ⟨⟨n, rfl⟩, hfix⟩ := hW
  constructor
  · intro hp
    exact (it_tru hs n a i j hp).2
  · rintro ⟨q, h1, h2, h3⟩
    have hF := fix_of hfix
    have hj := h3.end_ hi
    have h4 := fix_dr hF h3 hi (now := unitW i) (by unfold unitW; rw [if_pos rfl]; exact Nat.one_pos)
    have h5 := hF a i j hi hj
    have h6 : 0 < sumW g w (itW g w n) a i j g.Prods.length := sum_mem h2 h4 h1
    unfold cap at h5; omega
/-- Counted: derived in one way at least. -/
theorem DoneW.derives {W : Ws} (hW : DoneW g w W) (hs : ∀ q, q < g.Prods.length → ∀ s ∈ rhs g q, 0 ≤ s) (h0 : 0 < g.Prods.length) (hl : ∀ q, q < g.Prods.length → (lhs g q = 0 ↔ q = 0)) {n : Nat} : 0 < W 0 0 n ↔ Dr g w (rhs g 0) 0 n := by
  rw [hW.pos hs (Nat.zero_le _)]
  constructor
  · rintro ⟨q, h1, h2, h3⟩
    have := (hl q h1).1 (by simpa using h2)
    subst this; exact h3
  · intro h3
    exact ⟨0, h0, by simpa using (hl 0 h0).2 rfl, h3⟩

/-! ### more productions -/
theorem step_more (H : Mre g h) (W : Ws) : stepW h w W = stepW g w W := by
  funext s i j; unfold stepW; rw [H.t]
theorem next_more (H : Mre g h) (W : Ws) (s : Int) (now : Nat → Nat) (j : Nat) : ∀ i, nextI h w W s now j i = nextI g w W s now j i
  | 0 => rfl
  | i + 1 => by unfold nextI; rw [next_more H W s now j i, step_more H W]
theorem row_more (H : Mre g h) (W : Ws) : ∀ (l : List Int) (now : Nat → Nat), rowW h w W l now = rowW g w W l now
  | [], _ => rfl
  | s :: l, now => by
    show rowW h w W l (fun j => nextI h w W s now j (w.length + 1)) = rowW g w W l (fun j => nextI g w W s now j (w.length + 1))
    rw [row_more H W l]
    congr 1
    funext j; exact next_more H W s now j _
theorem sum_more (H : Mre g h) {V W : Ws} (hVW : LeW V W) (a i j : Nat) : ∀ q, q ≤ g.Prods.length → sumW g w V a i j q ≤ sumW h w W a i j q
  | 0, _ => Nat.le_refl _
  | q + 1, hq => by
    have ih := sum_more H hVW a i j q (by omega)
    unfold sumW
    obtain ⟨h1, h2⟩ := H.l q (by omega)
    rw [h1, h2]
    refine Nat.add_le_add ih ?_
    split
    · unfold rowOf
      rw [row_more H W]
      exact row_mono hVW _ (fun _ => Nat.le_refl _) j
    · exact Nat.le_refl _
theorem sum_up (W : Ws) (a i j : Nat) {q : Nat} : ∀ {r : Nat}, q ≤ r → sumW h w W a i j q ≤ sumW h w W a i j r
  | 0, hr => by obtain rfl : q = 0 := by omega
                exact Nat.le_refl _
  | r + 1, hr => by
    by_cases e : q = r + 1
    · subst e; exact Nat.le_refl _
    · have := sum_up W a i j (q := q) (r := r) (by omega)
      have h2 : sumW h w W a i j (r + 1) = sumW h w W a i j r + if lhs h r = (a : Int) then rowOf h w W (rhs h r) i j else 0 := rfl
      omega
theorem at_more (H : Mre g h) {V F : Ws} (hF : FixW h w F) (hVF : LeW V F) {i : Nat} (hi : i ≤ w.length) : LeW (growAt g w V i) F := fun a i' j => by
  unfold growAt
  split
  · rename_i h1
    obtain ⟨rfl, hj⟩ := h1
    have h2 := sum_more H (w := w) hVF a i' j g.Prods.length (Nat.le_refl _)
    have h3 := sum_up (h := h) (w := w) F a i' j H.n
    have h4 := hF a i' j hi hj
    have h5 := hVF a i' j
    unfold cap at h4 ⊢; omega
  · exact hVF _ _ _
theorem to_more (H : Mre g h) {F : Ws} (hF : FixW h w F) : ∀ (n : Nat) {V : Ws}, n ≤ w.length + 1 → LeW V F → LeW (growTo g w V n) F
  | 0, _, _, h => h
  | n + 1, _, hn, h => to_more H hF n (by omega) (at_more H hF h (by omega))
theorem DoneW.more (H : Mre g h) {V W : Ws} (hV : DoneW g w V) (hW : DoneW h w W) : LeW V W := by
  obtain ⟨⟨n, rfl⟩, _⟩ := hV
  have hF := fix_of hW.2
  have : ∀ n, LeW (itW g w n) W := fun n => by
    induction n with
    | zero => exact fun _ _ _ => Nat.zero_le _
    | succ n ih => exact to_more H hF _ (Nat.le_refl _) ih
  exact this n
theorem Mre.refl (g : Gram) : Mre g g := ⟨rfl, Nat.le_refl _, fun _ _ => ⟨rfl, rfl⟩⟩
theorem DoneW.uni {V W : Ws} (hV : DoneW g w V) (hW : DoneW g w W) : V = W := leW_anti (hV.more (Mre.refl g) hW) (hW.more (Mre.refl g) hV)

/-! ### growing ends -/
def cells3 (N n : Nat) : List (Nat × Nat × Nat) := (List.range N).flatMap fun a => (List.range (n + 1)).flatMap fun i => (List.range (n + 1)).map fun j => (a, i, j)
theorem mem_cells3 {N n a i j : Nat} : (a, i, j) ∈ cells3 N n ↔ a < N ∧ i ≤ n ∧ j ≤ n := by
  unfold cells3
  simp only [List.mem_flatMap, List.mem_range, List.mem_map, Prod.mk.injEq]
  constructor
  · rintro ⟨a', h1, i', h2, j', h3, rfl, rfl, rfl⟩; exact ⟨h1, by omega, by omega⟩
  · rintro ⟨h1, h2, h3⟩; exact ⟨a, h1, i, by omega, j, by omega, rfl, rfl, rfl⟩
def misW (N n : Nat) (W : Ws) : Nat := ((cells3 N n).map fun c => 2 - W c.1 c.2.1 c.2.2).sum
theorem sum_le3 {α : Type} {f f' : α → Nat} (hle : ∀ x, f' x ≤ f x) : ∀ l : List α, (l.map f').sum ≤ (l.map f).sum
  | [] => Nat.le_refl _
  | x :: l => by rw [List.map_cons, List.map_cons, List.sum_cons, List.sum_cons]; exact Nat.add_le_add (hle x) (sum_le3 hle l)
theorem sum_lt3 {α : Type} {f f' : α → Nat} (hle : ∀ x, f' x ≤ f x) {p : α} (hp : f' p < f p) : ∀ {l : List α}, p ∈ l → (l.map f').sum < (l.map f).sum
  | x :: l, hm => by
    rw [List.map_cons, List.map_cons, List.sum_cons, List.sum_cons]
    rcases List.mem_cons.1 hm with rfl | h
    · have := sum_le3 hle l; omega
    · have := sum_lt3 hle hp h; have := hle x; omega
theorem mis_le {N n : Nat} {V W : Ws} (h : LeW V W) : misW N n W ≤ misW N n V := sum_le3 (fun c => by have := h c.1 c.2.1 c.2.2; omega) _
theorem mis_lt {N n : Nat} {V W : Ws} (h : LeW V W) (h2 : Two W) {a i j : Nat} (ha : a < N) (hi : i ≤ n) (hj : j ≤ n) (hlt : V a i j < W a i j) : misW N n W < misW N n V :=
  sum_lt3 (p := (a, i, j)) (fun c => by have := h c.1 c.2.1 c.2.2; omega) (by have := h2 a i j; show 2 - W a i j < 2 - V a i j; omega) (mem_cells3.2 ⟨ha, hi, hj⟩)
end
end Go.Proofs.Ytjeimmekhfhepaa

namespace Go.Proofs.Ytjeimmekhfhepaa
set_option linter.all false
open Go.Proofs.Ytjeimmekhfhepaa.E

def kBad (g : Gram) (x : Int) : Bool := decide (x < 1) || decide (x ≥ g.Terms.length)
def chkE (g : Gram) (l : List Int) : Int := if checkE g ≠ 0 then checkE g else if l.length > 60 then 5 else if l.any (kBad g) then 2 else 0

attribute [local irreducible] EVX EVO EVL EV1 NEV
attribute [local irreducible] own osl exA rdA rdL
attribute [local irreducible] bldA mapA bun mapS
set_option maxRecDepth 10000
set_option maxHeartbeats 4000000

theorem chk1_w (b2 : Nat) (A0 : Option Addr) (c0 : Nat) (v1 v2 v3 v4 : Value) (g : Gram) (x : Int) : Trip Try.prog 36 [.int .i64 x, .pointer (some ⟨b2, 0, none⟩)] (rblk b2 27 [.slice A0 g.Terms.length c0, v1, v2, v3, v4]) [] (fun v V => v = .bool (kBad g x) ∧ V = []) := by
  refine trip Try.tabOk Try.func36 rfl rfl rfl rfl ?_
  rintro w SM ⟨hb, hb'⟩
  repeat' (first | refine e_nil ?_ | ((refine e_op ?_); (refine o_n (peval_sound rfl) rfl ?_)) | refine s_seq ?_ | refine s_region ?_)
  by_cases h1 : x < 1
  · rw [decide_eq_true h1]
    repeat' (first | refine e_nil ?_ | ((refine e_op ?_); (refine o_n (peval_sound rfl) rfl ?_)) | refine e_noU rfl rfl rfl ?_)
    refine s_ret ⟨_, _, res1 rfl rfl, ⟨?_, rfl⟩, Ent.nil _⟩
    unfold kBad; rw [decide_eq_true h1]; rfl
  · rw [decide_eq_false h1]
    repeat' (((refine e_yes rfl ?_); (refine o_n (peval_sound rfl) rfl ?_)))
    refine e_yes rfl (o_n (n_load_ro rfl rfl hb (loads_blk hb' rfl)) rfl ?_)
    repeat' (first | refine e_nil ?_ | ((first | refine e_op ?_ | refine e_yes rfl ?_); (refine o_n (peval_sound rfl) rfl ?_)))
    refine s_ret ⟨_, _, res1 rfl rfl, ⟨?_, rfl⟩, Ent.nil _⟩
    unfold kBad; rw [decide_eq_false h1]; rfl

theorem check24_w (cs : List Value) (g : Gram) (Al : Option Addr) (cl : Nat) (l : List Int) : Trip Try.prog 25 [.agg cs.toArray, .slice Al l.length cl] ((kGram.rd cs g).and ((kslice 8 kint).rd [.slice Al l.length cl] l)) [] (fun v V => v = .int .i64 (chkE g l) ∧ V = []) := by
  refine trip Try.tabOk Try.func25 rfl rfl rfl rfl ?_
  rintro w SM ⟨hR, hRl⟩
  obtain ⟨A0, A1, A2, A3, A4, c0, c1, c2, c3, c4, rfl, hG⟩ := kGram_open hR
  repeat' (first | refine e_nil ?_ | ((refine e_op ?_); (first | refine o_n (peval_sound rfl) rfl ?_ | refine o_n (nl rfl rfl tc rfl) rfl ?_ | refine o_box rfl rfl (fun _ => ?_))) | refine s_seq ?_ | refine s_region ?_)
  rename_i b2
  refine e_op (o_call (check_w _ g) rfl .nil (Can.ro hR) rfl ?_)
  rintro v V ⟨rfl, rfl⟩
  simp only [List.nil_append]
  repeat' (first | refine e_nil ?_ | ((refine e_op ?_); (refine o_n (peval_sound rfl) rfl ?_)) | refine s_seq ?_ | refine s_region ?_)
  by_cases hce : checkE g = 0
  · rw [show (checkE g != 0) = false by simp [hce]]
    have hk : chkE g l = if l.length > 60 then 5 else if l.any (kBad g) then 2 else 0 := by unfold chkE; rw [if_neg (by simp [hce])]
    repeat' (first | refine e_nil ?_ | ((refine e_op ?_); (refine o_n (peval_sound rfl) rfl ?_)) | refine s_seq ?_ | refine s_region ?_ | refine s_block ?_ | refine s_skip ?_ | refine s_false rfl ?_)
    refine s_cond rfl (fun h => ?_) (fun h => ?_)
    · have h5 : chkE g l = 5 := by rw [hk, if_pos (by have := of_decide_eq_true h; omega)]
      repeat' (first | refine e_nil ?_ | ((refine e_op ?_); (refine o_n (peval_sound rfl) rfl ?_)) | refine s_seq ?_ | refine s_region ?_)
      exact s_ret ⟨_, _, res1 rfl rfl, ⟨by rw [h5], rfl⟩, Ent.nil _⟩
    have hl : ¬ l.length > 60 := by have := of_decide_eq_false h; omega
    rw [if_neg hl] at hk
    clear h
    repeat' (first | ((refine e_op ?_); (refine o_n (peval_sound rfl) rfl ?_)) | refine s_seq ?_ | refine s_region ?_)
    have hF : ∀ (u : Value) (x : Int), x ∈ l → Trip Try.prog 36 ([] ++ [u] ++ [.pointer (some ⟨b2, 0, none⟩)])
        ((rblk b2 27 [.slice A0 g.Terms.length c0, .slice A1 g.Levels.length c1, .slice A2 g.Pats.length c2, .slice A3 g.Nons.length c3, .slice A4 g.Prods.length c4]).and (kint.rd [u] x)) [] (fun v V => v = .bool (kBad g x) ∧ V = []) := by
      intro u x _
      refine ⟨(chk1_w b2 A0 c0 (.slice A1 g.Levels.length c1) (.slice A2 g.Pats.length c2) (.slice A3 g.Nons.length c3) (.slice A4 g.Prods.length c4) g 0).enters, fun w SM h1 h2 h3 => ?_⟩
      obtain ⟨h4, h5, hI⟩ := h3
      cases h5
      exact (chk1_w b2 A0 c0 _ _ _ _ g x).calls w SM h1 h2 h4
    refine e_op (o_call (hasInt_w kint rfl 36 [] [.pointer (some ⟨b2, 0, none⟩)] _ (kBad g) Al cl l hF) rfl .nil (Can.and (Can.blk .z) (Can.ro hRl)) rfl ?_)
    rintro v V ⟨rfl, rfl⟩
    simp only [List.nil_append]
    repeat' (first | refine e_nil ?_ | ((refine e_op ?_); (refine o_n (peval_sound rfl) rfl ?_)))
    refine s_cond rfl (fun h => ?_) (fun h => ?_)
    · repeat' (first | refine e_nil ?_ | ((refine e_op ?_); (refine o_n (peval_sound rfl) rfl ?_)) | refine s_seq ?_ | refine s_region ?_)
      exact s_ret ⟨_, _, res1 rfl rfl, ⟨by rw [hk, if_pos h], rfl⟩, Ent.nil _⟩
    · repeat' (first | refine e_nil ?_ | ((refine e_op ?_); (refine o_n (peval_sound rfl) rfl ?_)) | refine s_seq ?_ | refine s_region ?_ | refine s_end ?_ | refine s_skip ?_)
      exact s_ret ⟨_, _, res1 rfl rfl, ⟨by rw [hk, h]; rfl, rfl⟩, Ent.nil _⟩
  · rw [show (checkE g != 0) = true by simp [hce]]
    have hk : chkE g l = checkE g := by unfold chkE; rw [if_pos hce]
    repeat' (first | refine e_nil ?_ | ((refine e_op ?_); (refine o_n (peval_sound rfl) rfl ?_)) | refine s_seq ?_ | refine s_region ?_ | refine s_true rfl ?_)
    exact s_ret ⟨_, _, res1 rfl rfl, ⟨by rw [hk], rfl⟩, Ent.nil _⟩

end Go.Proofs.Ytjeimmekhfhepaa

namespace Go.Proofs.Ytjeimmekhfhepaa
set_option linter.all false
open Go.Proofs.Ytjeimmekhfhepaa.E

abbrev K3 := Nat × Nat × Nat
def enc3 (k : K3) : Value := .agg #[.int .i64 k.1, .int .i64 k.2.1, .int .i64 k.2.2]

theorem part3 (w : World) (cs : Array Value) (o : Nat) (u : Int) (h : cs[o]? = some (.int .i64 u)) : (part 3 cs o).run Try.prog w = .ok (.int .i64 u) w :=
  run_part_plain (P := Try.prog) w (by kernel_rfl) h
theorem check3 (w : World) (e : Bool) (n : Nat) (k : IntKind) (v : Int) : (Instr.checkKey e (n + 1) 3 (.int k v)).run Try.prog w = .ok () w := by
  unfold Instr.checkKey
  simp [run_underlying Try.underlying3, Result.andThen]
theorem stays_agg (w : World) (l : List Int) : (Instr.keyThatStays (.agg (l.map fun n => Value.int .i64 n).toArray) (.agg (l.map fun n => Value.int .i64 n).toArray)).run Try.prog w = .ok (.agg (l.map fun n => Value.int .i64 n).toArray) w := by
  have : Instr.sameBits 10000 (.agg (l.map fun n => Value.int .i64 n).toArray) (.agg (l.map fun n => Value.int .i64 n).toArray) = true := by
    simp only [Instr.sameBits, beq_self_eq_true, Bool.true_and]
    induction l with
    | nil => rfl
    | cons n l ih => simp [Instr.sameBits] at ih ⊢; exact ih
  unfold Instr.keyThatStays
  rw [this]; rfl
theorem dec3 (a b : K3) : decide (a = b) = ((a.1 : Int) == (b.1 : Int) && ((a.2.1 : Int) == (b.2.1 : Int) && (a.2.2 : Int) == (b.2.2 : Int))) := by
  obtain ⟨x, y, z⟩ := a
  obtain ⟨x', y', z'⟩ := b
  rw [Bool.eq_iff_iff]
  simp
  constructor
  · rintro ⟨h1, h2, h3⟩; omega
  · rintro ⟨h1, h2, h3⟩; omega

theorem f68 : Try.prog.fieldsOf 68 = #[{ name := "prod", type := 3, offset := 0, embedded := false, tag := "", pkgPath := "incunable/earley", byteOffset := 0 }, { name := "dot", type := 3, offset := 1, embedded := false, tag := "", pkgPath := "incunable/earley", byteOffset := 8 }, { name := "from", type := 3, offset := 2, embedded := false, tag := "", pkgPath := "incunable/earley", byteOffset := 16 }] := by kernel_rfl
theorem u68 : Try.prog.underlying 68 = some (.struct (Try.prog.fieldsOf 68)) := by kernel_rfl
theorem equal68 (w : World) (a b : K3) : (Op.equal 68 (enc3 a) (enc3 b)).run Try.prog w = .ok (decide (a = b)) w := by
  unfold Op.equal Op.maxDepth enc3
  rw [run_equalIn_struct (P := Try.prog) w 9999 68 _ _ (by kernel_rfl) (by kernel_rfl), f68, dec3]
  have e : ∀ u v : Int, (Op.equalIn 9999 3 (.int .i64 u) (.int .i64 v)).run Try.prog w = .ok (u == v) w := fun u v => run_equalIn_int w 9998 3 .i64 .i64 u v Try.underlying3
  have p0 : ∀ x y z : Int, (part 3 #[.int .i64 x, .int .i64 y, .int .i64 z] 0).run Try.prog w = .ok (.int .i64 x) w := fun x y z => part3 w _ 0 x rfl
  have p1 : ∀ x y z : Int, (part 3 #[.int .i64 x, .int .i64 y, .int .i64 z] 1).run Try.prog w = .ok (.int .i64 y) w := fun x y z => part3 w _ 1 y rfl
  have p2 : ∀ x y z : Int, (part 3 #[.int .i64 x, .int .i64 y, .int .i64 z] 2).run Try.prog w = .ok (.int .i64 z) w := fun x y z => part3 w _ 2 z rfl
  simp only [Op.eqFields]
  simp only [Sem.run_bind, p0, p1, p2, e, Result.andThen_ok, Sem.run_ite, Sem.run_pure]
  cases (a.1 : Int) == (b.1 : Int) <;> cases (a.2.1 : Int) == (b.2.1 : Int) <;> cases (a.2.2 : Int) == (b.2.2 : Int) <;> simp [p0, p1, p2, e, *]
theorem check68 (w : World) (e : Bool) (n : Nat) (a b c : Int) : (Instr.checkKey e (n + 2) 68 (.agg #[.int .i64 a, .int .i64 b, .int .i64 c])).run Try.prog w = .ok () w := by
  unfold Instr.checkKey
  simp [run_underlying u68, f68, Result.andThen, part3 w #[.int .i64 a, .int .i64 b, .int .i64 c] 0 a rfl, part3 w #[.int .i64 a, .int .i64 b, .int .i64 c] 1 b rfl, part3 w #[.int .i64 a, .int .i64 b, .int .i64 c] 2 c rfl, check3]
theorem mkey68 : MKey Try.prog 68 enc3 := mkey_struct u68 equal68 (fun w e k => check68 w e 9998 _ _ _) (fun w k => stays_agg w [k.1, k.2.1, k.2.2])

theorem f75 : Try.prog.fieldsOf 75 = #[{ name := "name", type := 3, offset := 0, embedded := false, tag := "", pkgPath := "incunable/earley", byteOffset := 0 }, { name := "from", type := 3, offset := 1, embedded := false, tag := "", pkgPath := "incunable/earley", byteOffset := 8 }, { name := "to", type := 3, offset := 2, embedded := false, tag := "", pkgPath := "incunable/earley", byteOffset := 16 }] := by kernel_rfl
theorem u75 : Try.prog.underlying 75 = some (.struct (Try.prog.fieldsOf 75)) := by kernel_rfl
theorem equal75 (w : World) (a b : K3) : (Op.equal 75 (enc3 a) (enc3 b)).run Try.prog w = .ok (decide (a = b)) w := by
  unfold Op.equal Op.maxDepth enc3
  rw [run_equalIn_struct (P := Try.prog) w 9999 75 _ _ (by kernel_rfl) (by kernel_rfl), f75, dec3]
  have e : ∀ u v : Int, (Op.equalIn 9999 3 (.int .i64 u) (.int .i64 v)).run Try.prog w = .ok (u == v) w := fun u v => run_equalIn_int w 9998 3 .i64 .i64 u v Try.underlying3
  have p0 : ∀ x y z : Int, (part 3 #[.int .i64 x, .int .i64 y, .int .i64 z] 0).run Try.prog w = .ok (.int .i64 x) w := fun x y z => part3 w _ 0 x rfl
  have p1 : ∀ x y z : Int, (part 3 #[.int .i64 x, .int .i64 y, .int .i64 z] 1).run Try.prog w = .ok (.int .i64 y) w := fun x y z => part3 w _ 1 y rfl
  have p2 : ∀ x y z : Int, (part 3 #[.int .i64 x, .int .i64 y, .int .i64 z] 2).run Try.prog w = .ok (.int .i64 z) w := fun x y z => part3 w _ 2 z rfl
  simp only [Op.eqFields]
  simp only [Sem.run_bind, p0, p1, p2, e, Result.andThen_ok, Sem.run_ite, Sem.run_pure]
  cases (a.1 : Int) == (b.1 : Int) <;> cases (a.2.1 : Int) == (b.2.1 : Int) <;> cases (a.2.2 : Int) == (b.2.2 : Int) <;> simp [p0, p1, p2, e, *]
theorem check75 (w : World) (e : Bool) (n : Nat) (a b c : Int) : (Instr.checkKey e (n + 2) 75 (.agg #[.int .i64 a, .int .i64 b, .int .i64 c])).run Try.prog w = .ok () w := by
  unfold Instr.checkKey
  simp [run_underlying u75, f75, Result.andThen, part3 w #[.int .i64 a, .int .i64 b, .int .i64 c] 0 a rfl, part3 w #[.int .i64 a, .int .i64 b, .int .i64 c] 1 b rfl, part3 w #[.int .i64 a, .int .i64 b, .int .i64 c] 2 c rfl, check3]
theorem mkey75 : MKey Try.prog 75 enc3 := mkey_struct u75 equal75 (fun w e k => check75 w e 9998 _ _ _) (fun w k => stays_agg w [k.1, k.2.1, k.2.2])

end Go.Proofs.Ytjeimmekhfhepaa

namespace Go.Proofs.Ytjeimmekhfhepaa
set_option linter.all false
open Go.Proofs.Ytjeimmekhfhepaa.E

abbrev ptrN (a : Nat) : Value := .pointer (some ⟨a, 0, none⟩)
theorem load_cell {xs : List Value} {o : Nat} {v : Value} {i : TI} (ha : aggB i.d = false) (h : xs[o]? = some v) : loadL i xs o = some v := by unfold loadL; rw [ha]; exact h
/-- Numbers by place. -/
def nums (n : Nat) (F : Nat → Nat) : List Value := (List.range (n + 1)).map fun j => Value.int .i64 (F j : Nat)
theorem nums_len (n : Nat) (F : Nat → Nat) : (nums n F).length = n + 1 := by unfold nums; simp
theorem nums_ext {n : Nat} {F G : Nat → Nat} (h : ∀ j, j ≤ n → F j = G j) : nums n F = nums n G := by
  unfold nums
  exact List.map_congr_left fun j hj => by rw [h j (by have := List.mem_range.1 hj; omega)]
theorem nums_set {n : Nat} {F : Nat → Nat} {j v : Nat} (hj : j ≤ n) : (nums n F).set j (.int .i64 (v : Nat)) = nums n fun i => if i = j then v else F i := by
  unfold nums
  apply List.ext_getElem
  · simp
  · intro i h1 h2
    simp only [List.getElem_set, List.getElem_map, List.getElem_range]
    by_cases e : j = i
    · subst e; simp
    · rw [if_neg e, if_neg (fun h => e h.symm)]
theorem nums_load {n : Nat} {F : Nat → Nat} {j o : Nat} (hj : j ≤ n) (ho : o = j) {b : Nat} {z : List Value} {s : Nat} : loadL ⟨.int .i64, s, b, z⟩ (nums n F) o = some (.int .i64 (F j : Nat)) := by
  subst ho
  refine load_cell rfl ?_
  unfold nums
  rw [List.getElem?_map, List.getElem?_range (by omega)]; rfl
theorem nums_zero (n : Nat) : List.replicate (n + 1) (Value.int .i64 0) = nums n fun _ => 0 := by
  unfold nums
  apply List.ext_getElem
  · simp
  · intro i h1 h2; simp

theorem rowW_snoc (g : Gram) (w : List Int) (W : Ws) (s : Int) : ∀ (l : List Int) (now : Nat → Nat), rowW g w W (l ++ [s]) now = fun j => nextI g w W s (rowW g w W l now) j (w.length + 1)
  | [], _ => rfl
  | a :: l, now => rowW_snoc g w W s l _
theorem next_two (g : Gram) (w : List Int) (W : Ws) (s : Int) (now : Nat → Nat) (j : Nat) : ∀ i, nextI g w W s now j i ≤ 2
  | 0 => Nat.zero_le _
  | i + 1 => by unfold nextI cap; omega
theorem row_two (g : Gram) (w : List Int) (W : Ws) : ∀ (l : List Int) (now : Nat → Nat) (h : ∀ j, now j ≤ 2) (j : Nat), rowW g w W l now j ≤ 2
  | [], _, h, j => h j
  | s :: l, now, h, j => row_two g w W l _ (fun j => next_two g w W s now j _) j

abbrev cblk (bc bw : Nat) (gs : List Value) (Ak : Option Addr) (n ck : Nat) : Asn := blk bc 73 (gs ++ [.slice Ak n ck, .map (some bw)])
/-- A map tells ways. -/
def Tells (lw : List (K3 × Value)) (W : Ws) : Prop := ∀ a i j, (lookK lw (a, i, j)).getD (.int .i64 0) = .int .i64 (W a i j : Nat)

attribute [local irreducible] EVX EVO EVL EV1 NEV
attribute [local irreducible] own osl exA rdA rdL
attribute [local irreducible] bldA mapA bun mapS nums
set_option maxRecDepth 10000
set_option maxHeartbeats 4000000

theorem crow_w (bc bw : Nat) (A0 : Option Addr) (c0 : Nat) (v1 v2 v3 v4 : Value) (g : Gram) (Ak : Option Addr) (ck : Nat) (w : List Int) (lw : List (K3 × Value)) (st : List Nat) (cm : Nat) (W : Ws) (hW : Tells lw W) (hW2 : Two W) (Al : Option Addr) (cl : Nat) (l : List Int) (from_ : Nat) (hf : from_ ≤ w.length) (hw : w.length ≤ 60) (hT : g.Terms.length ≤ 48) (hl : ∀ s ∈ l, 0 ≤ s ∧ s ≤ 1000) :
    Trip Try.prog 37 [ptrN bc, .slice Al l.length cl, .int .i64 from_] (((kslice 8 kint).rd [.slice Ak w.length ck] w).and ((kslice 8 kint).rd [.slice Al l.length cl] l)) [blk bc 73 [.slice A0 g.Terms.length c0, v1, v2, v3, v4, .slice Ak w.length ck, .map (some bw)], mapS enc3 bw lw st cm]
      (fun v V => ∃ b, v = .slice (some ⟨b, 0, none⟩) (w.length + 1) (w.length + 1) ∧ V = [osl 3 1 (.slice (some ⟨b, 0, none⟩) (w.length + 1) (w.length + 1)) (w.length + 1) (nums w.length (rowOf g w W l from_)), blk bc 73 [.slice A0 g.Terms.length c0, v1, v2, v3, v4, .slice Ak w.length ck, .map (some bw)], mapS enc3 bw lw st cm]) := by
  refine trip Try.tabOk Try.func37 rfl rfl rfl rfl ?_
  rintro wd SM ⟨⟨Ak', ck', e1, k1, k2, k3⟩, ⟨Al', cl', e2, l1, l2, l3⟩⟩
  cases e1; cases e2
  have hw1 : IntKind.i64.wrap ((w.length : Int) + 1) = ((w.length + 1 : Nat) : Int) := by rw [wrap_i64] <;> omega
  repeat' (first | refine e_nil ?_ | ((refine e_op ?_); (first | refine o_n (peval_sound rfl) rfl ?_ | refine o_n (nl rfl rfl tc rfl) rfl ?_)) | refine s_seq ?_ | refine s_region ?_)
  rw [hw1]
  refine e_op (o_make rfl rfl rfl rfl (w.length + 1) rfl rfl (by omega) (by omega) rfl (fun b7 => ?_))
  rw [nums_zero]
  repeat' (first | refine e_nil ?_ | ((refine e_op ?_); (refine o_n (peval_sound rfl) rfl ?_)) | refine s_seq ?_ | refine s_region ?_)
  refine e_op (o_n (n_index rfl rfl rfl rfl from_ rfl (by omega)) rfl ?_)
  refine e_op (o_storeO (vs := [.int .i64 1]) rfl rfl rfl rfl to uc rfl rfl (by rw [nums_len]; show 0 + from_ * 1 + 1 ≤ _; omega) ?_)
  have e1 : setMany (nums w.length fun _ => 0) (0 + from_ * 1) [.int .i64 1] = nums w.length (unitW from_) := by
    rw [show 0 + from_ * 1 = from_ by omega]
    show (nums w.length fun _ => 0).set from_ (.int .i64 ((1 : Nat) : Int)) = _
    rw [nums_set hf]; rfl
  rw [e1]
  repeat' (first | refine e_nil ?_ | ((refine e_op ?_); (refine o_n (peval_sound rfl) rfl ?_)) | refine s_seq ?_ | refine s_region ?_ | refine s_block ?_)
  refine s_loopK (ι := {z : Nat × Nat // z.1 ≤ l.length}) [0, 25, 26] rfl ⟨(0, b7), Nat.zero_le _⟩ (fun z => [(27, .int .i64 z.1.1), (7, .slice (some ⟨z.1.2, 0, none⟩) (w.length + 1) (w.length + 1))])
    (fun z => [osl 3 1 (.slice (some ⟨z.1.2, 0, none⟩) (w.length + 1) (w.length + 1)) (w.length + 1) (nums w.length (rowW g w W (l.take z.1.1) (unitW from_))), blk bc 73 [.slice A0 g.Terms.length c0, v1, v2, v3, v4, .slice Ak w.length ck, .map (some bw)], mapS enc3 bw lw st cm]) (fun z => l.length - z.1.1) ?_ (Ent.refl _) ?_
  · repeat' (first | exact Sub.nil _ | refine Sub.cons rfl ?_)
  rintro ⟨⟨k, b⟩, hk⟩
  simp only at hk ⊢
  repeat' (first | refine e_nil ?_ | ((refine e_op ?_); (refine o_n (peval_sound rfl) rfl ?_)) | refine s_seq ?_ | refine s_region ?_)
  refine s_cond rfl (fun h => ?_) (fun h => ?_)
  · have hkl : k < l.length := by simpa using h
    obtain ⟨e3, o3, es3, rfl, he3, hr3, hc3⟩ := l3 k hkl
    obtain ⟨rfl, hs64⟩ := hr3
    have hs := hl _ (List.getElem_mem hkl)
    have htk : l.take (k + 1) = l.take k ++ [l[k]] := List.take_succ_eq_append_getElem hkl
    have hrow : rowW g w W (l.take (k + 1)) (unitW from_) = fun j => nextI g w W l[k] (rowW g w W (l.take k) (unitW from_)) j (w.length + 1) := by rw [htk, rowW_snoc]
    have hnow2 : ∀ j, rowW g w W (l.take k) (unitW from_) j ≤ 2 := row_two g w W _ _ (fun j => by unfold unitW; split <;> omega)
    generalize rowW g w W (l.take k) (unitW from_) = now at hrow hnow2 ⊢
    repeat' (first | refine s_seq ?_ | refine s_region ?_ | refine s_block ?_ | refine s_skip ?_)
    refine e_op (o_n (n_index rfl rfl rfl rfl k rfl hkl) rfl ?_)
    refine e_op (o_n (n_load_ro rfl rfl he3 (loads_one rfl (hc3 0 _ rfl))) rfl ?_)
    generalize hsd : l[k] = s at hs hrow ⊢
    repeat' (first | refine e_nil ?_ | ((refine e_op ?_); (refine o_n (peval_sound rfl) rfl ?_)) | refine s_seq ?_ | refine s_region ?_)
    refine e_op (o_make rfl rfl rfl rfl (w.length + 1) rfl rfl (by omega) (by omega) rfl (fun b10 => ?_))
    rw [nums_zero]
    repeat' (first | refine e_nil ?_ | ((refine e_op ?_); (refine o_n (peval_sound rfl) rfl ?_)) | refine s_seq ?_ | refine s_region ?_ | refine s_block ?_)
    refine s_loopK (ι := {i : Nat // i ≤ w.length + 1}) [27, 7, 0, 25, 26, 9, 10, 34, 35] rfl ⟨0, Nat.zero_le _⟩ (fun i => [(36, .int .i64 i.1)])
      (fun i => [osl 3 1 (.slice (some ⟨b10, 0, none⟩) (w.length + 1) (w.length + 1)) (w.length + 1) (nums w.length (fun j => nextI g w W s now j i.1)), osl 3 1 (.slice (some ⟨b, 0, none⟩) (w.length + 1) (w.length + 1)) (w.length + 1) (nums w.length now), blk bc 73 [.slice A0 g.Terms.length c0, v1, v2, v3, v4, .slice Ak w.length ck, .map (some bw)], mapS enc3 bw lw st cm]) (fun i => w.length + 1 - i.1) ?_ (Ent.refl _) ?_
    · repeat' (first | exact Sub.nil _ | refine Sub.cons rfl ?_)
    rintro ⟨i, hi⟩
    simp only at hi ⊢
    repeat' (first | refine e_nil ?_ | ((refine e_op ?_); (refine o_n (peval_sound rfl) rfl ?_)) | refine s_seq ?_ | refine s_region ?_)
    refine s_cond rfl (fun h => ?_) (fun h => ?_)
    · have hil : i < w.length + 1 := by have h := of_decide_eq_true h; omega
      have hni := hnow2 i
      have hnx : ∀ j, nextI g w W s now j i ≤ 2 := fun j => next_two g w W s now j i
      repeat' (first | ((refine e_op ?_); (refine o_n (peval_sound rfl) rfl ?_)) | refine s_seq ?_ | refine s_region ?_ | refine s_block ?_ | refine s_skip ?_)
      refine e_op (o_n (n_index rfl rfl rfl rfl i rfl (by omega)) rfl ?_)
      refine e_op (o_n (no rfl rfl to (nums_load (j := i) (by omega) (by show 0 + i * 1 = i; omega))) rfl ?_)
      repeat' (first | refine e_nil ?_ | ((refine e_op ?_); (first | refine o_n (peval_sound rfl) rfl ?_ | refine o_n (nl rfl rfl tc rfl) rfl ?_)) | refine s_seq ?_ | refine s_region ?_)
      refine s_blockJ (ι := Unit) (fun _ => [(36, .int .i64 i), (27, .int .i64 k), (7, .slice (some ⟨b, 0, none⟩) (w.length + 1) (w.length + 1)), (0, ptrN bc), (25, .slice (some ⟨e3, o3, none⟩) l.length cl), (26, .int .i64 l.length), (9, .int .i64 s), (10, .slice (some ⟨b10, 0, none⟩) (w.length + 1) (w.length + 1)), (34, .slice (some ⟨b, 0, none⟩) (w.length + 1) (w.length + 1)), (35, .int .i64 ((w.length + 1 : Nat) : Int))])
        (fun _ => [osl 3 1 (.slice (some ⟨b10, 0, none⟩) (w.length + 1) (w.length + 1)) (w.length + 1) (nums w.length (fun j => nextI g w W s now j (i + 1))), osl 3 1 (.slice (some ⟨b, 0, none⟩) (w.length + 1) (w.length + 1)) (w.length + 1) (nums w.length now), blk bc 73 [.slice A0 g.Terms.length c0, v1, v2, v3, v4, .slice Ak w.length ck, .map (some bw)], mapS enc3 bw lw st cm]) (fun hfin => ?_) ?_
      · refine s_seq ?_
        refine s_region ?_
        repeat' (((refine e_op ?_); (refine o_n (peval_sound rfl) rfl ?_)))
        refine e_nil ?_
        by_cases h0 : now i = 0
        · rw [show ((now i : Int) == 0) = true by simp [h0]]
          have hsame : nums w.length (fun j => nextI g w W s now j (i + 1)) = nums w.length (fun j => nextI g w W s now j i) := nums_ext fun j _ => by
            show cap (nextI g w W s now j i + now i * stepW g w W s i j) = _
            rw [h0, Nat.zero_mul, Nat.add_zero]
            have := hnx j
            unfold cap; omega
          rw [hsame] at hfin
          refine s_true rfl ?_
          refine s_weak ?_ (Ent.refl _) (s_skip (s_end (hfin ())))
          repeat' (first | exact Sub.nil _ | refine Sub.cons rfl ?_)
        rw [show ((now i : Int) == 0) = false by simp [h0]]
        refine s_false rfl ?_
        refine s_seq ?_
        refine s_region ?_
        repeat' (((refine e_op ?_); (refine o_n (peval_sound rfl) rfl ?_)))
        refine e_nil ?_
        by_cases hsT : s < g.Terms.length
        · rw [decide_eq_false (p := (s ≥ (g.Terms.length : Int))) (by omega)]
          refine s_false rfl ?_
          have hstep : ∀ j, stepW g w W s i j = if w[i]? = some s ∧ j = i + 1 then 1 else 0 := fun j => by unfold stepW; rw [if_pos hsT]
          have hno : w[i]? ≠ some s → nums w.length (fun j => nextI g w W s now j (i + 1)) = nums w.length (fun j => nextI g w W s now j i) := fun hn => nums_ext fun j _ => by
            show cap (nextI g w W s now j i + now i * stepW g w W s i j) = _
            rw [hstep, if_neg (fun h => hn h.1), Nat.mul_zero, Nat.add_zero]
            have := hnx j
            unfold cap; omega
          refine s_seq ?_
          refine s_region ?_
          repeat' (((refine e_op ?_); (first | refine o_n (peval_sound rfl) rfl ?_ | refine o_n (nl rfl rfl tc rfl) rfl ?_)))
          by_cases hiw : i < w.length
          · rw [decide_eq_true (p := ((i : Int) < (w.length : Int))) (by omega)]
            obtain ⟨e5, o5, es5, rfl, he5, hr5, hc5⟩ := k3 i hiw
            obtain ⟨rfl, hw64⟩ := hr5
            repeat' (((refine e_yes rfl ?_); (first | refine o_n (peval_sound rfl) rfl ?_ | refine o_n (nl rfl rfl tc rfl) rfl ?_)))
            refine e_yes rfl (o_n (n_index rfl rfl rfl rfl i rfl hiw) rfl ?_)
            refine e_yes rfl (o_n (n_load_ro rfl rfl he5 (loads_one rfl (hc5 0 _ rfl))) rfl ?_)
            repeat' (((first | refine e_op ?_ | refine e_yes rfl ?_); (refine o_n (peval_sound rfl) rfl ?_)))
            refine e_nil ?_
            by_cases hws : w[i] = s
            · rw [show (w[i] == s) = true by simpa using hws]
              have hi1 : IntKind.i64.wrap ((i : Int) + 1) = ((i + 1 : Nat) : Int) := by rw [wrap_i64] <;> omega
              have hn1 := hnx (i + 1)
              have hm2 : IntKind.i64.wrap ((nextI g w W s now (i + 1) i : Int) + (now i : Int)) = ((nextI g w W s now (i + 1) i + now i : Nat) : Int) := by rw [wrap_i64] <;> omega
              have hgi : w[i]? = some s := by rw [List.getElem?_eq_getElem hiw, hws]
              have hnew : nextI g w W s now (i + 1) (i + 1) = cap (nextI g w W s now (i + 1) i + now i) := by
                show cap (nextI g w W s now (i + 1) i + now i * stepW g w W s i (i + 1)) = _
                rw [hstep, if_pos ⟨hgi, rfl⟩, Nat.mul_one]
              have hcp : (if (2 : Int) < ((nextI g w W s now (i + 1) i + now i : Nat) : Int) then (2 : Int) else ((nextI g w W s now (i + 1) i + now i : Nat) : Int)) = ((nextI g w W s now (i + 1) (i + 1) : Nat) : Int) := by
                rw [hnew]
                unfold cap
                split <;> omega
              have hset : setMany (nums w.length fun j => nextI g w W s now j i) (0 + (i + 1) * 1) [.int .i64 (nextI g w W s now (i + 1) (i + 1) : Nat)] = nums w.length (fun j => nextI g w W s now j (i + 1)) := by
                rw [show 0 + (i + 1) * 1 = i + 1 by omega]
                show List.set _ (i + 1) _ = _
                rw [nums_set (by omega)]
                refine nums_ext fun j _ => ?_
                by_cases h1 : j = i + 1
                · subst h1; rw [if_pos rfl]
                · rw [if_neg h1]
                  show _ = cap (nextI g w W s now j i + now i * stepW g w W s i j)
                  rw [hstep, if_neg (fun h => h1 h.2), Nat.mul_zero, Nat.add_zero]
                  have := hnx j
                  unfold cap; omega
              refine s_true rfl ?_
              refine s_region ?_
              repeat' (((refine e_op ?_); (refine o_n (peval_sound rfl) rfl ?_)))
              rw [hi1]
              refine e_op (o_n (n_index rfl rfl rfl rfl (i + 1) rfl (by omega)) rfl ?_)
              refine e_op (o_n (no rfl rfl to (nums_load (j := i + 1) (by omega) (by show 0 + (i + 1) * 1 = i + 1; omega))) rfl ?_)
              repeat' (((refine e_op ?_); (refine o_n (peval_sound rfl) rfl ?_)))
              rw [hm2]
              rw [hcp]
              refine e_op (o_n (n_index rfl rfl rfl rfl (i + 1) rfl (by omega)) rfl ?_)
              refine e_op (o_storeO (vs := [.int .i64 (nextI g w W s now (i + 1) (i + 1) : Nat)]) rfl rfl rfl rfl to uc rfl rfl (by rw [nums_len]; show 0 + (i + 1) * 1 + 1 ≤ _; omega) ?_)
              rw [← hset] at hfin
              refine e_weak ?_ (Ent.refl _) (e_nil (s_end (hfin ())))
              repeat' (first | exact Sub.nil _ | refine Sub.cons rfl ?_)
            · rw [show (w[i] == s) = false by simpa using hws]
              rw [hno (fun h => hws (by rw [List.getElem?_eq_getElem hiw] at h; exact Option.some.inj h))] at hfin
              refine s_false rfl ?_
              refine s_weak ?_ (Ent.refl _) (s_skip (s_end (hfin ())))
              repeat' (first | exact Sub.nil _ | refine Sub.cons rfl ?_)
          · rw [decide_eq_false (p := ((i : Int) < (w.length : Int))) (by omega)]
            repeat' (first | ((refine e_op ?_); (refine o_n (peval_sound rfl) rfl ?_)) | refine e_noU rfl rfl rfl ?_)
            refine e_nil ?_
            rw [hno (fun h => hiw (List.getElem?_eq_some_iff.1 h).1)] at hfin
            refine s_false rfl ?_
            refine s_weak ?_ (Ent.refl _) (s_skip (s_end (hfin ())))
            repeat' (first | exact Sub.nil _ | refine Sub.cons rfl ?_)
        · rw [decide_eq_true (p := (s ≥ (g.Terms.length : Int))) (by omega)]
          refine s_true rfl ?_
          have hsub : IntKind.i64.wrap (s - (g.Terms.length : Int)) = ((s - g.Terms.length).toNat : Int) := by rw [wrap_i64] <;> omega
          obtain ⟨a, ha⟩ : ∃ a, a = (s - g.Terms.length).toNat := ⟨_, rfl⟩
          rw [← ha] at hsub
          have hstep : ∀ j, stepW g w W s i j = if i ≤ j then W a i j else 0 := fun j => by unfold stepW; rw [if_neg hsT, ← ha]
          repeat' (first | refine e_nil ?_ | ((refine e_op ?_); (refine o_n (peval_sound rfl) rfl ?_)) | refine s_seq ?_ | refine s_region ?_ | refine s_block ?_)
          refine s_loopK (ι := {j : Nat // i ≤ j ∧ j ≤ w.length + 1}) [36, 27, 7, 0, 25, 26, 9, 10, 34, 35, 11, 12, 13] rfl ⟨i, Nat.le_refl _, by omega⟩ (fun j => [(14, .int .i64 j.1)])
            (fun j => [osl 3 1 (.slice (some ⟨b10, 0, none⟩) (w.length + 1) (w.length + 1)) (w.length + 1) (nums w.length (fun j' => if j' < j.1 then nextI g w W s now j' (i + 1) else nextI g w W s now j' i)), osl 3 1 (.slice (some ⟨b, 0, none⟩) (w.length + 1) (w.length + 1)) (w.length + 1) (nums w.length now), blk bc 73 [.slice A0 g.Terms.length c0, v1, v2, v3, v4, .slice Ak w.length ck, .map (some bw)], mapS enc3 bw lw st cm]) (fun j => w.length + 1 - j.1) ?_ ?_ ?_
          · repeat' (first | exact Sub.nil _ | refine Sub.cons rfl ?_)
          · have e : nums w.length (fun j => nextI g w W s now j i) = nums w.length (fun j' => if j' < i then nextI g w W s now j' (i + 1) else nextI g w W s now j' i) := nums_ext fun j _ => by
              split
              · rename_i hj
                show _ = cap (nextI g w W s now j i + now i * stepW g w W s i j)
                rw [hstep, if_neg (by omega), Nat.mul_zero, Nat.add_zero]
                have := hnx j
                unfold cap; omega
              · rfl
            rw [e]
            exact Ent.refl _
          rintro ⟨j, hij, hj⟩
          simp only at hij hj ⊢
          repeat' (first | refine e_nil ?_ | ((refine e_op ?_); (refine o_n (peval_sound rfl) rfl ?_)) | refine s_seq ?_ | refine s_region ?_)
          refine s_cond rfl (fun h => ?_) (fun h => ?_)
          · have hjl : j < w.length + 1 := by have h := of_decide_eq_true h; omega
            have hnj := hnx j
            have hwj := hW2 a i j
            have hmul : now i * W a i j ≤ 4 := Nat.le_trans (Nat.mul_le_mul (hnow2 i) hwj) (by omega)
            have hm1 : IntKind.i64.wrap ((now i : Int) * (W a i j : Int)) = ((now i * W a i j : Nat) : Int) := by
              rw [← Int.natCast_mul, wrap_i64] <;> omega
            have hm2 : IntKind.i64.wrap ((nextI g w W s now j i : Int) + ((now i * W a i j : Nat) : Int)) = ((nextI g w W s now j i + now i * W a i j : Nat) : Int) := by rw [wrap_i64] <;> omega
            repeat' (first | refine s_seq ?_ | refine s_block ?_ | refine s_skip ?_)
            refine s_P Try.mixed (by decide +kernel) ?_
            refine p_barU 22 ?_
            refine q_n 0 rfl (peval_sound rfl) (by decide +kernel) (by decide +kernel) (Ent.refl _) rfl ?_
            refine q_n 1 rfl (peval_sound rfl) (by decide +kernel) (by decide +kernel) (Ent.refl _) rfl ?_
            refine q_n 2 rfl (peval_sound rfl) (by decide +kernel) (by decide +kernel) (Ent.refl _) rfl ?_
            refine q_n 3 rfl (peval_sound rfl) (by decide +kernel) (by decide +kernel) (Ent.refl _) rfl ?_
            refine q_n 4 rfl (n_index rfl rfl rfl rfl j rfl (by omega)) (by decide +kernel) (by decide +kernel) (Ent.refl _) rfl ?_
            refine q_n 5 rfl (no rfl rfl to (nums_load (j := j) (by omega) (by show 0 + j * 1 = j; omega))) (by decide +kernel) (by decide +kernel) (Ent.refl _) rfl ?_
            refine q_n 6 rfl (peval_sound rfl) (by decide +kernel) (by decide +kernel) (Ent.refl _) rfl ?_
            refine q_n 7 rfl (peval_sound rfl) (by decide +kernel) (by decide +kernel) (Ent.refl _) rfl ?_
            refine q_n 8 rfl (peval_sound rfl) (by decide +kernel) (by decide +kernel) (Ent.refl _) rfl ?_
            refine q_n 9 rfl (peval_sound rfl) (by decide +kernel) (by decide +kernel) (Ent.refl _) rfl ?_
            refine q_n 10 rfl (nl rfl rfl tc rfl) (by decide +kernel) (by decide +kernel) (Ent.refl _) rfl ?_
            refine q_n 11 rfl (peval_sound rfl) (by decide +kernel) (by decide +kernel) (Ent.refl _) rfl ?_
            refine q_n 12 rfl (peval_sound rfl) (by decide +kernel) (by decide +kernel) (Ent.refl _) rfl ?_
            refine q_n 13 rfl (peval_sound rfl) (by decide +kernel) (by decide +kernel) (Ent.refl _) rfl ?_
            rw [hsub]
            refine q_n 14 rfl (peval_sound rfl) (by decide +kernel) (by decide +kernel) (Ent.refl _) rfl ?_
            refine q_n 15 rfl (peval_sound rfl) (by decide +kernel) (by decide +kernel) (Ent.refl _) rfl ?_
            refine q_n 16 rfl (peval_sound rfl) (by decide +kernel) (by decide +kernel) (Ent.refl _) rfl ?_
            refine q_n 17 rfl (NEV.weak (Ent.trans (Ent.tak (TakA.tak (A := mapS enc3 bw lw st cm)) (Ent.refl _)) ent_mapS) (n_lookup (z := .int .i64 0) (k := (a, i, j)) rfl mkey75 (fun w => by kernel_rfl) rfl rfl rfl .z)) (by decide +kernel) (by decide +kernel) (Ent.refl _) rfl ?_
            rw [hW a i j, if_neg (Nat.lt_irrefl j)]
            refine q_n 18 rfl (peval_sound rfl) (by decide +kernel) (by decide +kernel) (Ent.refl _) rfl ?_
            rw [hm1]
            refine q_n 19 rfl (peval_sound rfl) (by decide +kernel) (by decide +kernel) (Ent.refl _) rfl ?_
            rw [hm2]
            refine q_n 20 rfl (n_min (p := ((nextI g w W s now j i + now i * W a i j : Nat) : Int)) (q := 2) rfl rfl) (by decide +kernel) (by decide +kernel) (Ent.refl _) rfl ?_
            have hcp : (if (2 : Int) < ((nextI g w W s now j i + now i * W a i j : Nat) : Int) then (2 : Int) else ((nextI g w W s now j i + now i * W a i j : Nat) : Int)) = ((nextI g w W s now j (i + 1) : Nat) : Int) := by
              have e : nextI g w W s now j (i + 1) = cap (nextI g w W s now j i + now i * W a i j) := by
                show cap (nextI g w W s now j i + now i * stepW g w W s i j) = _
                rw [hstep, if_pos hij]
              rw [e]
              unfold cap
              split <;> omega
            rw [hcp]
            refine q_n 21 rfl (n_index rfl rfl rfl rfl j rfl (by omega)) (by decide +kernel) (by decide +kernel) (Ent.refl _) rfl ?_
            refine q_z 22 (by decide +kernel) rfl rfl (o_storeO (vs := [.int .i64 (nextI g w W s now j (i + 1) : Nat)]) rfl rfl rfl rfl to uc rfl rfl (by rw [nums_len]; show 0 + j * 1 + 1 ≤ _; omega) ?_)
            refine p_done (by decide +kernel) ?_
            repeat' (first | refine e_nil ?_ | ((refine e_op ?_); (refine o_n (peval_sound rfl) rfl ?_)) | refine s_region ?_ | refine s_end ?_)
            refine s_back ⟨⟨j + 1, by omega, by omega⟩, by simp only; omega, ?_, ?_⟩
            · repeat' (first | exact Sub.nil _ | refine Sub.cons rfl ?_ | refine Sub.consE rfl ?_ ?_)
              exact inc (i := j) (by omega)
            · have e : setMany (nums w.length fun j' => if j' < j then nextI g w W s now j' (i + 1) else nextI g w W s now j' i) (0 + j * 1) [.int .i64 (nextI g w W s now j (i + 1) : Nat)] = nums w.length (fun j' => if j' < j + 1 then nextI g w W s now j' (i + 1) else nextI g w W s now j' i) := by
                rw [show 0 + j * 1 = j by omega]
                show List.set _ j _ = _
                rw [nums_set (by omega)]
                refine nums_ext fun j' _ => ?_
                by_cases h1 : j' = j
                · subst h1; rw [if_pos rfl, if_pos (by omega)]
                · rw [if_neg h1]
                  by_cases h2 : j' < j
                  · rw [if_pos h2, if_pos (by omega)]
                  · rw [if_neg h2, if_neg (by omega)]
              simp only
              rw [← e]
              exact Ent.refl _
          · obtain rfl : j = w.length + 1 := by have h := of_decide_eq_false h; omega
            refine s_weak (fr' := [(36, .int .i64 i), (27, .int .i64 k), (7, .slice (some ⟨b, 0, none⟩) (w.length + 1) (w.length + 1)), (0, ptrN bc), (25, .slice (some ⟨e3, o3, none⟩) l.length cl), (26, .int .i64 l.length), (9, .int .i64 s), (10, .slice (some ⟨b10, 0, none⟩) (w.length + 1) (w.length + 1)), (34, .slice (some ⟨b, 0, none⟩) (w.length + 1) (w.length + 1)), (35, .int .i64 ((w.length + 1 : Nat) : Int))]) (V := [osl 3 1 (.slice (some ⟨b10, 0, none⟩) (w.length + 1) (w.length + 1)) (w.length + 1) (nums w.length (fun j => nextI g w W s now j (i + 1))), osl 3 1 (.slice (some ⟨b, 0, none⟩) (w.length + 1) (w.length + 1)) (w.length + 1) (nums w.length now), blk bc 73 [.slice A0 g.Terms.length c0, v1, v2, v3, v4, .slice Ak w.length ck, .map (some bw)], mapS enc3 bw lw st cm]) ?_ ?_ ?_
            · repeat' (first | exact Sub.nil _ | refine Sub.cons rfl ?_)
            · have e : nums w.length (fun j => nextI g w W s now j (i + 1)) = nums w.length (fun j' => if j' < w.length + 1 then nextI g w W s now j' (i + 1) else nextI g w W s now j' i) := nums_ext fun j hj => by rw [if_pos (by omega)]
              rw [e]
              exact Ent.refl _
            · repeat' (first | refine s_exit ?_ | refine x_code ?_ | refine x_back ?_)
              refine x_hit ?_
              refine s_end ?_
              exact hfin ()
      · rintro -
        repeat' (first | refine e_nil ?_ | ((refine e_op ?_); (refine o_n (peval_sound rfl) rfl ?_)) | refine s_region ?_ | refine s_end ?_)
        refine s_back ⟨⟨i + 1, by omega⟩, by simp only; omega, ?_, Ent.refl _⟩
        repeat' (first | exact Sub.nil _ | refine Sub.cons rfl ?_ | refine Sub.consE rfl ?_ ?_)
        exact inc (i := i) (by omega)
    · obtain rfl : i = w.length + 1 := by have h := of_decide_eq_false h; omega
      repeat' (first | refine e_nil ?_ | ((refine e_op ?_); (refine o_n (peval_sound rfl) rfl ?_)) | refine s_region ?_ | refine s_end ?_ | refine s_exit ?_ | refine x_hit ?_ | refine x_code ?_ | refine x_back ?_)
      refine s_back ⟨⟨(k + 1, b10), by simp only; omega⟩, by simp only; omega, ?_, ?_⟩
      · repeat' (first | exact Sub.nil _ | refine Sub.cons rfl ?_ | refine Sub.consE rfl ?_ ?_)
        exact inc (i := k) (by omega)
      · simp only
        rw [hrow]
        repeat' (first | exact Ent.nil _ | refine Ent.tak tk ?_)
  · obtain rfl : k = l.length := by have h := of_decide_eq_false h; omega
    rw [List.take_length]
    repeat' (first | refine e_nil ?_ | ((refine e_op ?_); (refine o_n (peval_sound rfl) rfl ?_)) | refine s_seq ?_ | refine s_region ?_ | refine s_exit ?_ | refine x_hit ?_ | refine x_code ?_ | refine x_back ?_)
    refine s_ret ⟨_, _, res1 rfl rfl, ⟨b, rfl, rfl⟩, Ent.refl _⟩

end Go.Proofs.Ytjeimmekhfhepaa

namespace Go.Proofs.Ytjeimmekhfhepaa
set_option linter.all false
open Go.Proofs.Ytjeimmekhfhepaa.E
section
variable {κ : Type} [DecidableEq κ]

theorem findK_some {k : κ} : ∀ {l : List (κ × Value)} {o i : Nat} {v : Value}, findK k l o = some (i, v) → o ≤ i ∧ l[i - o]? = some (k, v)
  | [], _, _, _, h => by cases h
  | p :: l, o, i, v, h => by
    unfold findK at h
    by_cases hk : p.1 = k
    · rw [if_pos hk] at h
      cases h
      refine ⟨Nat.le_refl _, ?_⟩
      rw [Nat.sub_self]
      show some p = _
      rw [← hk]
    · rw [if_neg hk] at h
      obtain ⟨h1, h2⟩ := findK_some h
      refine ⟨by omega, ?_⟩
      rw [show i - o = (i - (o + 1)) + 1 by omega]
      exact h2
theorem findK_lookN {k : κ} {l : List (κ × Value)} (h : findK k l 0 = none) : lookK l k = none := by
  rw [← findK_look k l 0, h]; rfl
/-- A key set: the pairs that it makes. -/
theorem look_set : ∀ {l : List (κ × Value)} {o i : Nat} {k : κ} {v v2 : Value} (_ : findK k l o = some (i, v)) (k' : κ), lookK (l.set (i - o) (k, v2)) k' = if k' = k then some v2 else lookK l k'
  | [], _, _, _, _, _, h, _ => by cases h
  | p :: l, o, i, k, v, v2, h, k' => by
    unfold findK at h
    by_cases hk : p.1 = k
    · rw [if_pos hk] at h
      cases h
      rw [Nat.sub_self]
      show lookK ((k, v2) :: l) k' = _
      unfold lookK
      by_cases e : k' = k
      · subst e; rw [if_pos rfl, List.find?_cons_of_pos (by simp)]; rfl
      · rw [if_neg e, List.find?_cons_of_neg (by simpa using fun h => e h.symm), List.find?_cons_of_neg (by simpa using fun h => e (h.symm.trans hk))]
    · rw [if_neg hk] at h
      obtain ⟨h1, _⟩ := findK_some h
      have ih := look_set (v2 := v2) h k'
      rw [show i - o = (i - (o + 1)) + 1 by omega]
      show lookK (p :: l.set (i - (o + 1)) (k, v2)) k' = _
      unfold lookK at ih ⊢
      by_cases e : p.1 = k'
      · rw [List.find?_cons_of_pos (by simpa using e), List.find?_cons_of_pos (by simpa using e), if_neg (fun h => hk (e.trans h))]
      · rw [List.find?_cons_of_neg (by simpa using e), List.find?_cons_of_neg (by simpa using e)]
        exact ih
theorem look_app {l : List (κ × Value)} {k : κ} {v : Value} (h : lookK l k = none) (k' : κ) : lookK (l ++ [(k, v)]) k' = if k' = k then some v else lookK l k' := by
  unfold lookK at h ⊢
  rw [List.find?_append]
  by_cases e : k' = k
  · subst e
    rw [if_pos rfl]
    have h2 : l.find? (fun p => decide (p.1 = k')) = none := by
      cases hf : l.find? (fun p => decide (p.1 = k')) with
      | none => rfl
      | some x => rw [hf] at h; cases h
    rw [h2]; simp
  · rw [if_neg e]
    cases hf : l.find? (fun p => decide (p.1 = k')) with
    | none => simp; exact fun h => e h.symm
    | some x => simp

/-- A map that holds a value at a key (or nothing, where nothing is what it tells). -/
def mapV (enc : κ → Value) (b : Nat) (k : κ) (z v : Value) : Asn where
  P := fun w S => ∃ l, (mapA enc b l).P w S ∧ (lookK l k).getD z = v
  fr := fun w w' S h ⟨l, h1, h2⟩ => ⟨l, (mapA enc b l).fr w w' S h h1, h2⟩
theorem ent_mapV {enc : κ → Value} {b : Nat} {l : List (κ × Value)} {st : List Nat} {ck : Nat} {k : κ} {z v : Value} {V : List Asn} (h : (lookK l k).getD z = v) : Ent (mapS enc b l st ck :: V) (mapV enc b k z v :: V) := fun w S hs => by
  obtain ⟨S1, S2, h1, h2, h3⟩ := ent_mapS w S hs
  exact ⟨S1, S2, ⟨l, h1, h⟩, h2, h3⟩
theorem n_lookupV {E : Go.Proofs.Ytjeimmekhfhepaa.E.Env} {fr : Frm} {U U' : List Asn} {P : Program} {t kt e : TypeId} {s1 b1 : Nat} {z1 : List Value} {z v : Value} {x y : Operand} {b : Nat} {k : κ} {enc : κ → Value} (hP : E.P = P) (K : MKey P kt enc) (hz : ∀ w, (zeroValue e).run P w = .ok z w)
    (ht : tl E.T t = some ⟨.map kt e, s1, b1, z1⟩) (hx : val fr x = some (.map (some b))) (hy : val fr y = some (enc k)) (hU : Tak (mapV enc b k z v) U U') :
    NEV E (.lookup t x y false) fr U v := by
  subst hP
  intro a w dst ty pos af g hf hm
  obtain ⟨S1, ⟨l, ⟨_, es, clock, hb, hes⟩, hv⟩, _⟩ := hm.tak hU
  subst hv
  have hf2 := K.find w k es.toList l hes
  have hl := findK_look k l 0
  have hr : (Instr.lookup t (.map (some b)) (enc k) false).run E.P w = .ok ((lookK l k).getD z) w := by
    rw [← hl]
    cases hfk : findK k l 0 with
    | none => rw [hfk] at hf2; simp [Instr.lookup, run_under (u_map ht), MapKept.run_getObj_map hb, K.check, hf2, hz, Result.andThen]
    | some q => rw [hfk] at hf2; simp [Instr.lookup, run_under (u_map ht), MapKept.run_getObj_map hb, K.check, hf2, Result.andThen]
  simp [execOp, hf.eval hx, hf.eval hy, hr]

end

end Go.Proofs.Ytjeimmekhfhepaa

namespace Go.Proofs.Ytjeimmekhfhepaa
set_option linter.all false
open Go.Proofs.Ytjeimmekhfhepaa.E

abbrev advE (y : EI) : EI := ⟨y.p, y.d + 1, y.f⟩
abbrev rw_ (R : List (List EI)) (k : Nat) : List EI := R.getD k []
/-- What comes of an item at a place, beside what it completes. -/
structure DoneE (g : Gram) (w : List Int) (R : List (List EI)) (k : Nat) (x : EI) : Prop where
  pred : ∀ s, sym? g x = some s → ¬ s < g.Terms.length → ∀ q, q < g.Prods.length → lhs g q = s - g.Terms.length → (⟨q, 0, k⟩ : EI) ∈ rw_ R k
  scan : ∀ s, sym? g x = some s → s < g.Terms.length → w[k]? = some s → advE x ∈ rw_ R (k + 1)
/-- What an item that is whole completes. -/
def CompE (g : Gram) (R : List (List EI)) (k : Nat) (x y : EI) : Prop := ∀ s, sym? g x = none → sym? g y = some s → ¬ s < g.Terms.length → lhs g x.p = s - g.Terms.length → advE y ∈ rw_ R k
/-- A place is shut. -/
structure ShutR (g : Gram) (w : List Int) (R : List (List EI)) (k : Nat) : Prop where
  one : ∀ x ∈ rw_ R k, DoneE g w R k x
  comp : ∀ x ∈ rw_ R k, ∀ y ∈ rw_ R x.f, CompE g R k x y
theorem ein_in {g : Gram} {w : List Int} {R : List (List EI)} {n : Nat} (h0 : 0 < g.Prods.length) (hz : (⟨0, 0, 0⟩ : EI) ∈ rw_ R 0) (hs : ∀ j, j ≤ n → ShutR g w R j) {k : Nat} {x : EI} (h : Ein g w k x) : k ≤ n → x ∈ rw_ R k := by
  induction h with
  | start => intro _; exact hz
  | @pred k q x s h1 h2 h3 h4 h5 ih => intro hk; exact ((hs k hk).one x (ih hk)).pred s h2 h3 q h4 h5
  | @scan k x s h1 h2 h3 h4 ih => intro hk; exact ((hs k (by omega)).one x (ih (by omega))).scan s h2 h3 h4
  | @comp k x y s h1 h2 h3 h4 h5 h6 ih1 ih2 =>
    intro hk
    have hf := (h1.ok h0).f
    exact (hs k hk).comp x (ih1 hk) y (ih2 (by omega)) s h2 h4 h5 h6

/-- In the midst of the row at k: so many of its items are done. -/
structure RowI (g : Gram) (w : List Int) (R : List (List EI)) (k i : Nat) : Prop where
  so : ∀ j x, x ∈ rw_ R j → Ein g w j x
  nd : ∀ j, (rw_ R j).Nodup
  z : (⟨0, 0, 0⟩ : EI) ∈ rw_ R 0
  old : ∀ j, j < k → ShutR g w R j
  le : i ≤ (rw_ R k).length
  one : ∀ (q : Nat) (h : q < (rw_ R k).length), q < i → DoneE g w R k (rw_ R k)[q]
  past : ∀ (q : Nat) (h : q < (rw_ R k).length), q < i → (rw_ R k)[q].f < k → ∀ y ∈ rw_ R (rw_ R k)[q].f, CompE g R k (rw_ R k)[q] y
  here : ∀ (q r : Nat) (h : q < (rw_ R k).length) (h2 : r < (rw_ R k).length), q < i → r < i → (rw_ R k)[q].f = k → CompE g R k (rw_ R k)[q] (rw_ R k)[r]
  hi : ∀ j, k + 1 < j → rw_ R j = []
theorem RowI.shut {g : Gram} {w : List Int} {R : List (List EI)} {k i : Nat} (h0 : 0 < g.Prods.length) (h : RowI g w R k i) (hi : (rw_ R k).length ≤ i) : ShutR g w R k where
  one x hx := by
    obtain ⟨q, hq, rfl⟩ := List.getElem_of_mem hx
    exact h.one q hq (by omega)
  comp x hx y hy := by
    obtain ⟨q, hq, rfl⟩ := List.getElem_of_mem hx
    have hf := ((h.so k _ hx).ok h0).f
    by_cases e : (rw_ R k)[q].f < k
    · exact h.past q hq (by omega) e y hy
    · have e2 : (rw_ R k)[q].f = k := by omega
      rw [e2] at hy
      obtain ⟨r, hr, rfl⟩ := List.getElem_of_mem hy
      exact h.here q r hq hr (by omega) (by omega) e2
/-- To the next row. -/
theorem RowI.next {g : Gram} {w : List Int} {R : List (List EI)} {k i : Nat} (h0 : 0 < g.Prods.length) (h : RowI g w R k i) (hi : (rw_ R k).length ≤ i) : RowI g w R (k + 1) 0 where
  so := h.so
  nd := h.nd
  z := h.z
  old j hj := by
    by_cases e : j = k
    · subst e; exact h.shut h0 hi
    · exact h.old j (by omega)
  le := Nat.zero_le _
  one q _ hq := absurd hq (Nat.not_lt_zero _)
  past q _ hq := absurd hq (Nat.not_lt_zero _)
  here q _ _ _ hq := absurd hq (Nat.not_lt_zero _)
  hi j hj := h.hi j (by omega)
/-- Behind the last row: the items are those that are there. -/
theorem RowI.all {g : Gram} {w : List Int} {R : List (List EI)} {n : Nat} (h0 : 0 < g.Prods.length) (h : RowI g w R (n + 1) 0) {k : Nat} (hk : k ≤ n) {x : EI} : x ∈ rw_ R k ↔ Ein g w k x :=
  ⟨h.so k x, fun hx => ein_in h0 h.z (fun j hj => h.old j (by omega)) hx hk⟩

end Go.Proofs.Ytjeimmekhfhepaa

namespace Go.Proofs.Ytjeimmekhfhepaa
set_option linter.all false
open Go.Proofs.Ytjeimmekhfhepaa.E

/-- More items, behind those that were there. -/
structure MoreR (R R' : List (List EI)) (k : Nat) : Prop where
  pre : ∀ j, rw_ R j <+: rw_ R' j
  low : ∀ j, j < k → rw_ R' j = rw_ R j
  hi : ∀ j, k + 1 < j → rw_ R' j = rw_ R j
theorem MoreR.refl (R : List (List EI)) (k : Nat) : MoreR R R k := ⟨fun _ => List.prefix_refl _, fun _ _ => rfl, fun _ _ => rfl⟩
theorem MoreR.trans {R S T : List (List EI)} {k : Nat} (h : MoreR R S k) (h2 : MoreR S T k) : MoreR R T k := ⟨fun j => (h.pre j).trans (h2.pre j), fun j hj => (h2.low j hj).trans (h.low j hj), fun j hj => (h2.hi j hj).trans (h.hi j hj)⟩
theorem MoreR.mem {R S : List (List EI)} {k j : Nat} {x : EI} (h : MoreR R S k) (hx : x ∈ rw_ R j) : x ∈ rw_ S j := (h.pre j).subset hx
theorem DoneE.more {g : Gram} {w : List Int} {R S : List (List EI)} {k : Nat} {x : EI} (h : MoreR R S k) (hd : DoneE g w R k x) : DoneE g w S k x :=
  ⟨fun s a b q c d => h.mem (hd.pred s a b q c d), fun s a b c => h.mem (hd.scan s a b c)⟩
theorem CompE.more {g : Gram} {R S : List (List EI)} {k : Nat} {x y : EI} (h : MoreR R S k) (hc : CompE g R k x y) : CompE g S k x y := fun s a b c d => h.mem (hc s a b c d)

/-- One item more is done. -/
theorem RowI.step {g : Gram} {w : List Int} {R S : List (List EI)} {k i : Nat} (h0 : 0 < g.Prods.length) (h : RowI g w R k i) (hi : i < (rw_ R k).length) (hm : MoreR R S k) (hso : ∀ j x, x ∈ rw_ S j → Ein g w j x) (hnd : ∀ j, (rw_ S j).Nodup)
    (h1 : DoneE g w S k (rw_ R k)[i]) (h2 : (rw_ R k)[i].f < k → ∀ y ∈ rw_ R (rw_ R k)[i].f, CompE g S k (rw_ R k)[i] y)
    (h3 : (rw_ R k)[i].f = k → ∀ y ∈ rw_ R k, CompE g S k (rw_ R k)[i] y) (h4 : ∀ x ∈ rw_ R k, x.f = k → CompE g S k x (rw_ R k)[i]) : RowI g w S k (i + 1) := by
  have hpre := hm.pre k
  have hlen := hpre.length_le
  have hat : ∀ (q : Nat) (hq : q < (rw_ R k).length) (hq2 : q < (rw_ S k).length), (rw_ S k)[q] = (rw_ R k)[q] := fun q hq hq2 => by
    obtain ⟨t, ht⟩ := hpre
    have e : (rw_ S k)[q]? = (rw_ R k)[q]? := by rw [← ht, List.getElem?_append_left hq]
    rw [List.getElem?_eq_getElem hq, List.getElem?_eq_getElem hq2] at e
    exact Option.some.inj e
  refine ⟨hso, hnd, hm.mem h.z, fun j hj => ?_, by omega, fun q hq hqi => ?_, fun q hq hqi hf y hy => ?_, fun q r hq hr hqi hri hf => ?_, fun j hj => (hm.hi j hj).trans (h.hi j hj)⟩
  · have ho := h.old j hj
    refine ⟨fun x hx => ?_, fun x hx y hy => ?_⟩
    · rw [hm.low j hj] at hx
      have := ho.one x hx
      exact ⟨fun s a b q c d => hm.mem (this.pred s a b q c d), fun s a b c => hm.mem (this.scan s a b c)⟩
    · rw [hm.low j hj] at hx
      intro s a b c d
      by_cases e : x.f < k
      · rw [hm.low _ e] at hy
        exact hm.mem (ho.comp x hx y hy s a b c d)
      · exfalso
        have := ((h.so j x hx).ok h0).f
        omega
  · have hqR : q < (rw_ R k).length := by omega
    rw [hat q hqR hq]
    by_cases e : q = i
    · subst e; exact h1
    · exact (h.one q hqR (by omega)).more hm
  · have hqR : q < (rw_ R k).length := by omega
    have eq := hat q hqR hq
    rw [eq] at hf hy ⊢
    rw [hm.low _ hf] at hy
    by_cases e : q = i
    · subst e; exact h2 hf y hy
    · exact (h.past q hqR (by omega) hf y hy).more hm
  · have hqR : q < (rw_ R k).length := by omega
    have hrR : r < (rw_ R k).length := by omega
    have eq := hat q hqR hq
    have er := hat r hrR hr
    rw [eq] at hf ⊢
    rw [er]
    by_cases e : q = i
    · subst e; exact h3 hf _ (List.getElem_mem hrR)
    · by_cases e2 : r = i
      · subst e2; exact h4 _ (List.getElem_mem hqR) hf
      · exact (h.here q r hqR hrR (by omega) (by omega) hf).more hm

end Go.Proofs.Ytjeimmekhfhepaa

namespace Go.Proofs.Ytjeimmekhfhepaa
set_option linter.all false
open Go.Proofs.Ytjeimmekhfhepaa.E

theorem rhs_at {g : Gram} {p : Nat} (h : p < g.Prods.length) : rhs g p = g.Prods[p].Right := by
  unfold rhs prd; rw [Int.toNat_natCast, List.getD_eq_getElem?_getD, List.getElem?_eq_getElem h]; rfl
theorem lhs_at {g : Gram} {p : Nat} (h : p < g.Prods.length) : lhs g p = g.Prods[p].Left := by
  unfold lhs prd; rw [Int.toNat_natCast, List.getD_eq_getElem?_getD, List.getElem?_eq_getElem h]; rfl

theorem wf0_ofE {g : Gram} (h : checkE g = 0) : limitsB g = false ∧ Wf0 g := by
  unfold checkE wf at h
  cases hl : limitsB g with
  | true => simp [hl] at h
  | false =>
    cases hw : wf0 g with
    | true => exact ⟨rfl, (wf0_iff g).1 hw⟩
    | false => simp [hl, hw] at h

structure GSm (g : Gram) : Prop where
  n0 : 0 < g.Prods.length
  np : g.Prods.length ≤ 128
  rr : ∀ p, p < g.Prods.length → (rhs g p).length ≤ 12
  t1 : 1 ≤ g.Terms.length
  tt : g.Terms.length ≤ 48
  nn : g.Nons.length ≤ 48
  ll : ∀ p, p < g.Prods.length → 0 ≤ lhs g p ∧ lhs g p < g.Nons.length
  rs : ∀ p, p < g.Prods.length → ∀ s ∈ rhs g p, 1 ≤ s ∧ s < (g.Terms.length : Int) + g.Nons.length
  r0 : (rhs g 0).length = 1
  lz : ∀ p, p < g.Prods.length → (lhs g p = 0 ↔ p = 0)
theorem gSm {g : Gram} (h : checkE g = 0) : GSm g := by
  obtain ⟨hl, hw⟩ := wf0_ofE h
  unfold limitsB at hl
  simp only [Bool.or_eq_false_iff, decide_eq_false_iff_not] at hl
  obtain ⟨h1, h2, h3, h4⟩ := hl
  have hp : ∀ p (h : p < g.Prods.length), ProdOk g.Terms.length g.Nons.length p g.Prods[p] := fun p hp => (prodOk_iff _ _ _ _).1 (hw.prod p hp)
  obtain ⟨a1, a2, _⟩ := (startOk_iff _ _).1 hw.start
  refine ⟨hw.prods, by omega, fun p hq => ?_, hw.t, by omega, by omega, fun p hq => ?_, fun p hq s hs => ?_, ?_, fun p hq => ?_⟩
  · rw [rhs_at hq]
    have := List.any_eq_false.1 h4 _ (List.getElem_mem hq)
    simp only [decide_eq_true_eq] at this
    omega
  · rw [lhs_at hq]; exact ⟨(hp p hq).lo, (hp p hq).hi⟩
  · rw [rhs_at hq] at hs
    have := (hp p hq).right s hs
    exact ⟨this.1, this.2.1⟩
  · rw [rhs_at a1]; exact a2
  · rw [lhs_at hq]; exact (hp p hq).zero

theorem sym_mem {g : Gram} {x : EI} {s : Int} (h : sym? g x = some s) : s ∈ rhs g x.p := List.mem_of_getElem? h

def addR (R : List (List EI)) (i : Nat) (x : EI) : List (List EI) := if x ∈ R.getD i [] then R else R.set i (R.getD i [] ++ [x])
theorem addR_len (R : List (List EI)) (i : Nat) (x : EI) : (addR R i x).length = R.length := by
  unfold addR; split
  · rfl
  · rw [List.length_set]
theorem addR_ne (R : List (List EI)) {i j : Nat} (x : EI) (h : j ≠ i) : rw_ (addR R i x) j = rw_ R j := by
  unfold addR; split
  · rfl
  · show (R.set i _).getD j [] = R.getD j []
    rw [List.getD_eq_getElem?_getD, List.getElem?_set_ne (fun e => h e.symm), ← List.getD_eq_getElem?_getD]
theorem addR_eq (R : List (List EI)) {i : Nat} (x : EI) (h : i < R.length) : rw_ (addR R i x) i = if x ∈ rw_ R i then rw_ R i else rw_ R i ++ [x] := by
  unfold addR
  by_cases e : x ∈ R.getD i []
  · rw [if_pos e, if_pos e]
  · rw [if_neg e, if_neg e]
    show (R.set i _).getD i [] = _
    rw [List.getD_eq_getElem?_getD, List.getElem?_set_self h]; rfl

/-- Some more items, all true, none twice. -/
structure Mid (g : Gram) (w : List Int) (R S : List (List EI)) (k : Nat) : Prop where
  more : MoreR R S k
  so : ∀ j x, x ∈ rw_ S j → Ein g w j x
  nd : ∀ j, (rw_ S j).Nodup
theorem Mid.begin {g : Gram} {w : List Int} {R : List (List EI)} {k i : Nat} (h : RowI g w R k i) : Mid g w R R k := ⟨MoreR.refl R k, h.so, h.nd⟩
theorem Mid.add {g : Gram} {w : List Int} {R S : List (List EI)} {k j : Nat} {x : EI} (h : Mid g w R S k) (hx : Ein g w j x) (hj : j = k ∨ j = k + 1) (hl : j < S.length) :
    Mid g w R (addR S j x) k ∧ x ∈ rw_ (addR S j x) j ∧ MoreR S (addR S j x) k := by
  have e := addR_eq S x hl
  have hm : MoreR S (addR S j x) k := by
    refine ⟨fun q => ?_, fun q hq => addR_ne S x (by omega), fun q hq => addR_ne S x (by omega)⟩
    by_cases e2 : q = j
    · subst e2
      rw [e]
      split
      · exact List.prefix_refl _
      · exact List.prefix_append _ _
    · rw [addR_ne S x e2]; exact List.prefix_refl _
  refine ⟨⟨h.more.trans hm, fun q y hy => ?_, fun q => ?_⟩, ?_, hm⟩
  · by_cases e2 : q = j
    · subst e2
      rw [e] at hy
      split at hy
      · exact h.so _ _ hy
      · rcases List.mem_append.1 hy with h2 | h2
        · exact h.so _ _ h2
        · rw [List.mem_singleton] at h2; subst h2; exact hx
    · rw [addR_ne S x e2] at hy; exact h.so _ _ hy
  · by_cases e2 : q = j
    · subst e2
      rw [e]
      split
      · exact h.nd _
      · rename_i hn
        rw [List.nodup_append]
        exact ⟨h.nd _, by simp, fun a ha b hb e3 => by rw [List.mem_singleton] at hb; subst hb; subst e3; exact hn ha⟩
    · rw [addR_ne S x e2]; exact h.nd _
  · rw [e]
    split
    · assumption
    · exact List.mem_append_right _ (List.mem_singleton.2 rfl)

end Go.Proofs.Ytjeimmekhfhepaa

namespace Go.Proofs.Ytjeimmekhfhepaa
set_option linter.all false
open Go.Proofs.Ytjeimmekhfhepaa.E

abbrev iv (n : Nat) : Value := .int .i64 (n : Int)
theorem lookK_mem {κ : Type} [DecidableEq κ] {l : List (κ × Value)} {k : κ} {v : Value} (h : lookK l k = some v) : ∃ (i : Nat) (hi : i < l.length), l[i] = (k, v) := by
  unfold lookK at h
  cases hf : l.find? (fun p => decide (p.1 = k)) with
  | none => rw [hf] at h; cases h
  | some p =>
    rw [hf] at h
    cases h
    have h1 := List.mem_of_find?_eq_some hf
    have h2 := List.find?_some hf
    simp only [decide_eq_true_eq] at h2
    obtain ⟨i, hi, e⟩ := List.getElem_of_mem h1
    exact ⟨i, hi, by rw [e, ← h2]⟩

/-- Sums of one place. -/
structure SumOf (N n f : Nat) (l : List (K3 × Value)) (F : Nat → Nat → Nat) : Prop where
  nd : ∀ (i j : Nat) (hi : i < l.length) (hj : j < l.length), l[i].1 = l[j].1 → i = j
  val : ∀ (i : Nat) (hi : i < l.length), l[i].1.1 < N ∧ l[i].1.2.1 = f ∧ l[i].1.2.2 ≤ n ∧ l[i].2 = iv (F l[i].1.1 l[i].1.2.2)
  out : ∀ a j, j ≤ n → lookK l (a, f, j) = none → F a j = 0
section
variable {N n f : Nat} {l : List (K3 × Value)} {F : Nat → Nat → Nat}
theorem SumOf.nil : SumOf N n f [] fun _ _ => 0 := ⟨fun i j hi => absurd hi (Nat.not_lt_zero _), fun i hi => absurd hi (Nat.not_lt_zero _), fun _ _ _ _ => rfl⟩
theorem SumOf.ext {G : Nat → Nat → Nat} (h : SumOf N n f l F) (e : ∀ a j, j ≤ n → F a j = G a j) : SumOf N n f l G :=
  ⟨h.nd, fun i hi => by obtain ⟨a, b, c, d⟩ := h.val i hi; exact ⟨a, b, c, by rw [d, e _ _ c]⟩, fun a j hj h2 => by rw [← e a j hj]; exact h.out a j hj h2⟩
theorem SumOf.get (h : SumOf N n f l F) {a j : Nat} (hj : j ≤ n) : (lookK l (a, f, j)).getD (.int .i64 0) = iv (F a j) := by
  cases hl : lookK l (a, f, j) with
  | none => rw [h.out a j hj hl]; rfl
  | some v =>
    obtain ⟨i, hi, e⟩ := lookK_mem hl
    have := (h.val i hi).2.2.2
    rw [e] at this
    exact this
theorem lookK_no {κ : Type} [DecidableEq κ] {l : List (κ × Value)} {k : κ} (h0 : lookK l k = none) (i : Nat) (hi : i < l.length) : l[i].1 ≠ k := fun e => by
  unfold lookK at h0
  have := List.find?_eq_none.1 (Option.map_eq_none_iff.1 h0) _ (List.getElem_mem hi)
  simp only [decide_eq_true_eq] at this
  exact this e
theorem app_at {α : Type} {l : List α} {x : α} {i : Nat} (hi : i < (l ++ [x]).length) : (∃ h : i < l.length, (l ++ [x])[i] = l[i]) ∨ (i = l.length ∧ (l ++ [x])[i] = x) := by
  rw [List.length_append, List.length_singleton] at hi
  by_cases h : i < l.length
  · exact .inl ⟨h, List.getElem_append_left h⟩
  · have e : i = l.length := by omega
    subst e
    exact .inr ⟨rfl, by simp⟩
theorem SumOf.new {x a j : Nat} (h : SumOf N n f l F) (ha : a < N) (hj : j ≤ n) (h0 : lookK l (a, f, j) = none) : SumOf N n f (l ++ [((a, f, j), iv (F a j + x))]) fun a' j' => if a' = a ∧ j' = j then F a j + x else F a' j' := by
  have hne := lookK_no h0
  refine ⟨fun p q hp hq e => ?_, fun p hp => ?_, fun a' j' hj' h2 => ?_⟩
  · rcases app_at hp with ⟨h1, e1⟩ | ⟨h1, e1⟩ <;> rcases app_at hq with ⟨h2, e2⟩ | ⟨h2, e2⟩
    · rw [e1, e2] at e; exact h.nd p q h1 h2 e
    · rw [e1, e2] at e; exact absurd e (hne p h1)
    · rw [e1, e2] at e; exact absurd e.symm (hne q h2)
    · omega
  · rcases app_at hp with ⟨h1, e1⟩ | ⟨h1, e1⟩
    · rw [e1]
      obtain ⟨b1, b2, b3, b4⟩ := h.val p h1
      refine ⟨b1, b2, b3, ?_⟩
      rw [b4, if_neg]
      rintro ⟨e3, e4⟩
      exact hne p h1 (Prod.ext e3 (Prod.ext b2 e4))
    · rw [e1]
      exact ⟨ha, rfl, hj, by rw [if_pos ⟨rfl, rfl⟩]⟩
  · rw [look_app h0] at h2
    split at h2
    · cases h2
    · rename_i hk
      rw [if_neg (fun e => hk (by rw [e.1, e.2]))]
      exact h.out a' j' hj' h2
theorem SumOf.old {x a j i : Nat} {v : Value} (h : SumOf N n f l F) (hf : findK (a, f, j) l 0 = some (i, v)) : SumOf N n f (l.set i ((a, f, j), iv (F a j + x))) fun a' j' => if a' = a ∧ j' = j then F a j + x else F a' j' := by
  obtain ⟨_, hi⟩ := findK_some hf
  rw [Nat.sub_zero] at hi
  obtain ⟨hil, hie⟩ := List.getElem?_eq_some_iff.1 hi
  have hik : l[i].1 = (a, f, j) := by rw [hie]
  have hlen : (l.set i ((a, f, j), iv (F a j + x))).length = l.length := List.length_set
  have hat : ∀ (p : Nat) (hp : p < (l.set i ((a, f, j), iv (F a j + x))).length), (l.set i ((a, f, j), iv (F a j + x)))[p].1 = (l[p]'(by rw [← hlen]; exact hp)).1 := fun p hp => by
    rw [List.getElem_set]
    split
    · rename_i e; subst e; exact hik.symm
    · rfl
  have hvi := h.val i hil
  rw [hik] at hvi
  refine ⟨fun p q hp hq e => ?_, fun p hp => ?_, fun a' j' hj' h2 => ?_⟩
  · rw [hat p hp, hat q hq] at e; exact h.nd p q _ _ e
  · have hpl : p < l.length := by rw [← hlen]; exact hp
    have e1 := hat p hp
    obtain ⟨b1, b2, b3, b4⟩ := h.val p hpl
    rw [e1]
    refine ⟨b1, b2, b3, ?_⟩
    rw [List.getElem_set]
    by_cases e : i = p
    · subst e
      rw [if_pos rfl, hik, if_pos ⟨rfl, rfl⟩]
    · rw [if_neg e, b4, if_neg]
      rintro ⟨e3, e4⟩
      exact e (h.nd i p hil hpl (by rw [hik]; exact (Prod.ext e3 (Prod.ext b2 e4)).symm))
  · have := look_set (v2 := iv (F a j + x)) hf (a', f, j')
    rw [Nat.sub_zero] at this
    rw [this] at h2
    split at h2
    · cases h2
    · rename_i hk
      rw [if_neg (fun e => hk (by rw [e.1, e.2]))]
      exact h.out a' j' hj' h2
end

/-! ### a value more is told -/
def setW (W : Ws) (k : K3) (x : Nat) : Ws := fun a i j => if (a, i, j) = k then x else W a i j
theorem Tells.new {lw : List (K3 × Value)} {W : Ws} (h : Tells lw W) {k : K3} {x : Nat} (h0 : lookK lw k = none) : Tells (lw ++ [(k, iv x)]) (setW W k x) := fun a i j => by
  rw [look_app h0]
  unfold setW
  split
  · rfl
  · exact h a i j
theorem Tells.old {lw : List (K3 × Value)} {W : Ws} (h : Tells lw W) {k : K3} {x i : Nat} {v : Value} (hf : findK k lw 0 = some (i, v)) : Tells (lw.set i (k, iv x)) (setW W k x) := fun a p j => by
  have := look_set (v2 := iv x) hf (a, p, j)
  rw [Nat.sub_zero] at this
  rw [this]
  unfold setW
  split
  · rfl
  · exact h a p j

/-! ### growing from one place, key by key -/
structure GrI (g : Gram) (w : List Int) (f : Nat) (V W : Ws) (l : List (K3 × Value)) (ix : List Nat) : Prop where
  lo : LeW V W
  hi : LeW W (growAt g w V f)
  at_ : ∀ q ∈ ix, ∀ h : q < l.length, W l[q].1.1 l[q].1.2.1 l[q].1.2.2 = growAt g w V f l[q].1.1 l[q].1.2.1 l[q].1.2.2
section
variable {N n : Nat} {g : Gram} {w : List Int} {f : Nat} {V W : Ws} {l : List (K3 × Value)} {ix : List Nat}
theorem GrI.begin : GrI g w f V V l [] := ⟨LeW.refl V, grow_le V f, fun q hq => (nomatch hq)⟩
theorem GrI.all (hS : SumOf N n f l fun a j => sumW g w V a f j g.Prods.length) (hn : n = w.length) (h : GrI g w f V W l ix) (hall : ∀ q, q < l.length → q ∈ ix) : W = growAt g w V f := by
  refine leW_anti h.hi (fun a i j => ?_)
  by_cases e : i = f ∧ j ≤ w.length
  · obtain ⟨rfl, hj⟩ := e
    cases hl : lookK l (a, i, j) with
    | none =>
      have h0 := hS.out a j (by omega) hl
      unfold growAt
      rw [if_pos ⟨rfl, hj⟩, h0]
      have := h.lo a i j
      unfold cap; omega
    | some v =>
      obtain ⟨q, hq, e⟩ := lookK_mem hl
      have := h.at_ q (hall q hq) hq
      rw [e] at this
      exact Nat.le_of_eq this.symm
  · have := h.lo a i j
    unfold growAt
    rw [if_neg e]; exact this
/-- A key is met; what is told is enough. -/
theorem GrI.skip (hS : SumOf N n f l fun a j => sumW g w V a f j g.Prods.length) (hn : n = w.length) (h : GrI g w f V W l ix) {q : Nat} (hq : q < l.length) (hle : ¬ W l[q].1.1 l[q].1.2.1 l[q].1.2.2 < cap (sumW g w V l[q].1.1 f l[q].1.2.2 g.Prods.length)) : GrI g w f V W l (ix ++ [q]) := by
  refine ⟨h.lo, h.hi, fun p hp hpl => ?_⟩
  rcases List.mem_append.1 hp with h1 | h1
  · exact h.at_ p h1 hpl
  · rw [List.mem_singleton] at h1; subst h1
    obtain ⟨_, b2, b3, _⟩ := hS.val p hq
    have h2 := h.lo l[p].1.1 l[p].1.2.1 l[p].1.2.2
    have h3 := h.hi l[p].1.1 l[p].1.2.1 l[p].1.2.2
    unfold growAt at h3 ⊢
    rw [if_pos ⟨b2, by omega⟩] at h3 ⊢
    rw [b2] at h2 h3 hle ⊢
    omega
/-- A key is met, and more is told. -/
theorem GrI.put (hS : SumOf N n f l fun a j => sumW g w V a f j g.Prods.length) (hn : n = w.length) (h : GrI g w f V W l ix) {q : Nat} (hq : q < l.length) (hlt : W l[q].1.1 l[q].1.2.1 l[q].1.2.2 < cap (sumW g w V l[q].1.1 f l[q].1.2.2 g.Prods.length)) : GrI g w f V (setW W l[q].1 (cap (sumW g w V l[q].1.1 f l[q].1.2.2 g.Prods.length))) l (ix ++ [q]) := by
  obtain ⟨_, b2, b3, _⟩ := hS.val q hq
  have hg : growAt g w V f l[q].1.1 l[q].1.2.1 l[q].1.2.2 = cap (sumW g w V l[q].1.1 f l[q].1.2.2 g.Prods.length) := by
    have h2 := h.lo l[q].1.1 l[q].1.2.1 l[q].1.2.2
    unfold growAt
    rw [if_pos ⟨b2, by omega⟩, b2]
    rw [b2] at h2 hlt
    omega
  have hself : ∀ a i j, (a, i, j) = l[q].1 → a = l[q].1.1 ∧ i = l[q].1.2.1 ∧ j = l[q].1.2.2 := fun a i j e => by rw [← e]; exact ⟨rfl, rfl, rfl⟩
  refine ⟨fun a i j => ?_, fun a i j => ?_, fun p hp hpl => ?_⟩
  · unfold setW
    split
    · rename_i e
      obtain ⟨rfl, rfl, rfl⟩ := hself a i j e
      have := h.lo l[q].1.1 l[q].1.2.1 l[q].1.2.2
      omega
    · exact h.lo a i j
  · unfold setW
    split
    · rename_i e
      obtain ⟨rfl, rfl, rfl⟩ := hself a i j e
      rw [hg]; exact Nat.le_refl _
    · exact h.hi a i j
  · by_cases e : l[p].1 = l[q].1
    · unfold setW
      rw [e, if_pos rfl, hg]
    · unfold setW
      rw [if_neg e]
      rcases List.mem_append.1 hp with h1 | h1
      · exact h.at_ p h1 hpl
      · rw [List.mem_singleton] at h1; subst h1; exact absurd rfl e
end
theorem Two.set {W : Ws} (h : Two W) (k : K3) {x : Nat} (hx : x ≤ 2) : Two (setW W k x) := fun a i j => by
  unfold setW; split
  · exact hx
  · exact h a i j
theorem LeW.set {W : Ws} {k : K3} {x : Nat} (hx : W k.1 k.2.1 k.2.2 ≤ x) : LeW W (setW W k x) := fun a i j => by
  unfold setW; split
  · rename_i e; subst e; exact hx
  · exact Nat.le_refl _

/-- Whether something is new. -/
structure Fre (N n : Nat) (W V : Ws) (fr : Bool) : Prop where
  no : fr = false → V = W
  yes : fr = true → misW N n V < misW N n W
theorem Fre.begin (N n : Nat) (W : Ws) : Fre N n W W false := ⟨fun _ => rfl, fun h => (by cases h)⟩
theorem Fre.set {N n : Nat} {W V : Ws} {fr : Bool} (h : Fre N n W V fr) {k : K3} {x : Nat} (h2 : Two V) (hx : x ≤ 2) (h1 : k.1 < N) (h3 : k.2.1 ≤ n) (h4 : k.2.2 ≤ n) (hlt : V k.1 k.2.1 k.2.2 < x) : Fre N n W (setW V k x) true := by
  have hl := mis_lt (N := N) (n := n) (LeW.set (k := k) (x := x) (Nat.le_of_lt hlt)) (h2.set k hx) h1 h3 h4 (by show _ < setW V k x k.1 k.2.1 k.2.2; unfold setW; rw [if_pos rfl]; exact hlt)
  refine ⟨fun e => (by cases e), fun _ => ?_⟩
  cases fr with
  | false => rw [h.no rfl] at hl ⊢; exact hl
  | true => have := h.yes rfl; omega

/-- The sum so far: of the first q productions, and of the next one at the first t places. -/
def sumF (g : Gram) (w : List Int) (V : Ws) (f q t : Nat) : Nat → Nat → Nat := fun a j => sumW g w V a f j q + if j < t ∧ lhs g q = (a : Int) then rowOf g w V (rhs g q) f j else 0
theorem sumF_zero (g : Gram) (w : List Int) (V : Ws) (f q : Nat) : sumF g w V f q 0 = fun a j => sumW g w V a f j q := by
  funext a j; unfold sumF; rw [if_neg (fun h => absurd h.1 (Nat.not_lt_zero _)), Nat.add_zero]
theorem sumF_all {g : Gram} {w : List Int} {V : Ws} {f q n : Nat} (a j : Nat) (hj : j ≤ n) : sumF g w V f q (n + 1) a j = sumW g w V a f j (q + 1) := by
  unfold sumF
  show _ = sumW g w V a f j q + if lhs g q = (a : Int) then rowOf g w V (rhs g q) f j else 0
  congr 1
  by_cases e : lhs g q = (a : Int)
  · rw [if_pos ⟨by omega, e⟩, if_pos e]
  · rw [if_neg (fun h => e h.2), if_neg e]
theorem sumF_step {g : Gram} {w : List Int} {V : Ws} {f q t A : Nat} (hA : lhs g q = (A : Int)) (a j : Nat) : (if a = A ∧ j = t then sumF g w V f q t A t + rowOf g w V (rhs g q) f t else sumF g w V f q t a j) = sumF g w V f q (t + 1) a j := by
  unfold sumF
  by_cases e : a = A ∧ j = t
  · obtain ⟨rfl, rfl⟩ := e
    rw [if_pos ⟨rfl, rfl⟩, if_neg (fun h => absurd h.1 (Nat.lt_irrefl _)), if_pos ⟨by omega, hA⟩, Nat.add_zero]
  · rw [if_neg e]
    congr 1
    by_cases e2 : lhs g q = (a : Int)
    · have : a = A := by omega
      have : j ≠ t := fun h => e ⟨this, h⟩
      by_cases e3 : j < t
      · rw [if_pos ⟨e3, e2⟩, if_pos ⟨by omega, e2⟩]
      · rw [if_neg (fun h => e3 h.1), if_neg (fun h => by omega)]
    · rw [if_neg (fun h => e2 h.2), if_neg (fun h => e2 h.2)]
theorem sum_le2 {g : Gram} {w : List Int} {V : Ws} (a f j : Nat) : ∀ q, sumW g w V a f j q ≤ 2 * q
  | 0 => Nat.le_refl _
  | q + 1 => by
    have h1 := sum_le2 (g := g) (w := w) (V := V) a f j q
    have h2 : rowOf g w V (rhs g q) f j ≤ 2 := row_two g w V _ _ (fun j => by unfold unitW; split <;> omega) j
    unfold sumW
    split <;> omega
theorem sumF_le {g : Gram} {w : List Int} {V : Ws} (f q t a j : Nat) : sumF g w V f q t a j ≤ 2 * (q + 1) := by
  have h1 := sum_le2 (g := g) (w := w) (V := V) a f j q
  have h2 : rowOf g w V (rhs g q) f j ≤ 2 := row_two g w V _ _ (fun j => by unfold unitW; split <;> omega) j
  unfold sumF
  split <;> omega
end Go.Proofs.Ytjeimmekhfhepaa

namespace Go.Proofs.Ytjeimmekhfhepaa
set_option linter.all false
open Go.Proofs.Ytjeimmekhfhepaa.E

attribute [local irreducible] EVX EVO EVL EV1 NEV
attribute [local irreducible] own osl exA rdA rdL
attribute [local irreducible] bldA mapA bun mapS nums
set_option maxRecDepth 10000
set_option maxHeartbeats 4000000

theorem behC_w (bc : Nat) (A0 A1 A2 A3 A4 : Option Addr) (c0 c1 c2 c3 c4 : Nat) (rest : List Value) (g : Gram) (p d f : Nat) (hp : p < g.Prods.length) (hd : d ≤ (rhs g p).length) :
    Trip Try.prog 40 [ptrN bc, enc3 (p, d, f)] (kGram.rd [.slice A0 g.Terms.length c0, .slice A1 g.Levels.length c1, .slice A2 g.Pats.length c2, .slice A3 g.Nons.length c3, .slice A4 g.Prods.length c4] g) [blk bc 66 (.slice A0 g.Terms.length c0 :: .slice A1 g.Levels.length c1 :: .slice A2 g.Pats.length c2 :: .slice A3 g.Nons.length c3 :: .slice A4 g.Prods.length c4 :: rest)]
      (fun v V => v = .tuple #[.int .i64 ((sym? g ⟨p, d, f⟩).getD 0), .bool (sym? g ⟨p, d, f⟩).isSome] ∧ V = [blk bc 66 (.slice A0 g.Terms.length c0 :: .slice A1 g.Levels.length c1 :: .slice A2 g.Pats.length c2 :: .slice A3 g.Nons.length c3 :: .slice A4 g.Prods.length c4 :: rest)]) := by
  refine trip Try.tabOk Try.func40 rfl rfl rfl rfl ?_
  rintro w SM hR
  obtain ⟨_, _, _, _, _, _, _, _, _, _, ee, hG⟩ := kGram_open hR
  cases ee
  obtain ⟨b9, o9, es9, rfl, hb9, he9, hc9⟩ := hG.prods.2.2 p hp
  obtain ⟨Ar, cr, rfl, hl9, hlN, hlK, hri⟩ := kPrd_open he9
  have hrp := rhs_at hp
  unfold enc3
  repeat' (first | refine e_nil ?_ | ((refine e_op ?_); (first | refine o_n (peval_sound rfl) rfl ?_ | refine o_box rfl rfl (fun _ => ?_))) | refine s_seq ?_ | refine s_region ?_)
  refine s_drawU [] Try.mixed (by decide +kernel) ?_
  repeat' (((first | refine l_n (peval_sound rfl) rfl ?_ rfl ?_ | refine l_n (nl rfl rfl tc rfl) rfl ?_ rfl ?_); · (exact Ent.refl _)))
  refine l_n (n_index rfl rfl rfl rfl p rfl hp) rfl (Ent.refl _) rfl ?_
  repeat' (((refine l_n (peval_sound rfl) rfl ?_ rfl ?_); · (exact Ent.refl _)))
  refine l_n (n_load_ro rfl rfl hb9 (loads_one rfl (hc9 1 _ rfl))) rfl (Ent.refl _) rfl ?_
  repeat' (first | refine l_nil ?_ | ((refine l_n (peval_sound rfl) rfl ?_ rfl ?_); · (exact Ent.refl _)))
  repeat' (first | refine e_nil ?_ | ((refine e_op ?_); (first | refine o_n (peval_sound rfl) rfl ?_ | refine o_n (nl rfl rfl tc rfl) rfl ?_)) | refine s_seq ?_ | refine s_region ?_)
  by_cases hdl : d < (rhs g p).length
  · have hdl2 : d < g.Prods[p].Right.length := by rw [← hrp]; exact hdl
    have hsy : sym? g ⟨p, d, f⟩ = some (g.Prods[p].Right[d]) := by
      show (rhs g p)[d]? = _
      rw [hrp, List.getElem?_eq_getElem hdl2]
    rw [show ((d : Int) == (g.Prods[p].Right.length : Int)) = false by rw [beq_eq_false_iff_ne]; omega, hsy]
    obtain ⟨b5, o5, es5, rfl, hb5, hr5, hc5⟩ := hri.2.2 d hdl2
    obtain ⟨rfl, h64⟩ := hr5
    repeat' (first | ((refine e_op ?_); (first | refine o_n (peval_sound rfl) rfl ?_ | refine o_n (nl rfl rfl tc rfl) rfl ?_)) | refine s_seq ?_ | refine s_region ?_ | refine s_skip ?_ | refine s_false rfl ?_)
    refine e_op (o_n (n_index rfl rfl rfl rfl d rfl hdl2) rfl ?_)
    refine e_op (o_n (n_load_ro rfl rfl hb5 (loads_one rfl (hc5 0 _ rfl))) rfl ?_)
    repeat' (first | refine e_nil ?_ | ((refine e_op ?_); (refine o_n (peval_sound rfl) rfl ?_)))
    refine s_ret ⟨_, _, res2 rfl rfl rfl, ⟨rfl, rfl⟩, ?_⟩
    exact Ent.wk (Ent.refl _)
  · have hde : d = g.Prods[p].Right.length := by rw [← hrp]; omega
    have hsy : sym? g ⟨p, d, f⟩ = none := List.getElem?_eq_none (by show (rhs g p).length ≤ d; omega)
    rw [show ((d : Int) == (g.Prods[p].Right.length : Int)) = true by rw [beq_iff_eq]; omega, hsy]
    repeat' (first | refine e_nil ?_ | ((refine e_op ?_); (refine o_n (peval_sound rfl) rfl ?_)) | refine s_seq ?_ | refine s_region ?_ | refine s_true rfl ?_)
    refine s_ret ⟨_, _, res2 rfl rfl rfl, ⟨rfl, rfl⟩, ?_⟩
    exact Ent.wk (Ent.refl _)

end Go.Proofs.Ytjeimmekhfhepaa

namespace Go.Proofs.Ytjeimmekhfhepaa
set_option linter.all false
open Go.Proofs.Ytjeimmekhfhepaa.E

def encE (x : EI) : List Value := [.int .i64 x.p, .int .i64 x.d, .int .i64 x.f]
abbrev encEs (l : List EI) : List Value := l.flatMap encE
theorem encEs_len : ∀ l : List EI, (encEs l).length = l.length * 3
  | [] => rfl
  | x :: l => by unfold encEs; rw [List.flatMap_cons, List.length_append, ← encEs, encEs_len l, List.length_cons]; show 3 + _ = _; omega
theorem encEs_one (l : List EI) : ∀ u ∈ encEs l, oneB u = true := by
  intro u hu
  obtain ⟨x, _, h⟩ := List.mem_flatMap.1 hu
  unfold encE at h
  simp only [List.mem_cons, List.not_mem_nil, or_false] at h
  rcases h with rfl | rfl | rfl <;> rfl
theorem encEs_drop : ∀ {l : List EI} {i : Nat} (h : i < l.length), ((encEs l).drop (i * 3)).take 3 = encE l[i]
  | x :: l, 0, _ => by simp [encEs, encE]
  | x :: l, i + 1, h => by
    have h2 : i < l.length := by simpa using h
    rw [List.getElem_cons_succ, ← encEs_drop h2, show (i + 1) * 3 = 3 + i * 3 by omega, ← List.drop_drop]
    rfl
theorem encEs_load {l : List EI} {i : Nat} (h : i < l.length) {b : Nat} {z : List Value} {fs : List (Nat × Nat)} : loadL ⟨.struct fs, 3, b, z⟩ (encEs l) (0 + i * 3) = some (.agg (encE l[i]).toArray) := by
  unfold loadL
  simp only [aggB, cond_true]
  have : Nat.ble (0 + i * 3 + 3) (encEs l).length = true := by rw [encEs_len]; exact Nat.ble_eq_true_of_le (by omega)
  rw [this, cond_true, Nat.zero_add, encEs_drop h]

theorem n_eqlNil62 {w0 : World} {SM : BSet} {n : Nat} {fr : Frm} {U : List Asn} {x : Operand} {A : Option Addr} {m c : Nat} {t2 : TypeId} (hx : val fr x = some (.slice A m c)) :
    NEV ⟨Try.prog, Try.tab, Try.tabOk, n, w0, SM⟩ (.binOp .eql 62 x (.const (.slice none 0 0)) t2) fr U (.bool A.isNone) := by
  intro ac w dst ty pos af g hf _
  have hu : Try.prog.underlying 62 = some (.slice 68) := by kernel_rfl
  have he : (Op.equal 62 (.slice A m c) (.slice none 0 0)).run Try.prog w = .ok A.isNone w := run_equal_slice_nil (P := Try.prog) w 62 68 A m c hu
  have hg : Try.prog.eqGuardType Try.prog.depth 62 = false := by kernel_rfl
  have hc : ac.eval (.const (.slice none 0 0)) = .slice none 0 0 := rfl
  unfold execOp
  simp only [hf.eval hx, hc]
  simp [eqGuard, hg, binOp, he]

attribute [local irreducible] EVX EVO EVL EV1 NEV
attribute [local irreducible] own osl exA rdA rdL
attribute [local irreducible] bldA mapA bun mapS nums
set_option maxRecDepth 10000
set_option maxHeartbeats 4000000

theorem cloneE_w (A : Option Addr) (n c : Nat) (l : List EI) (hn : n = l.length) (hsz : l.length ≤ 1000000) :
    Trip Try.prog 41 [.slice A n c] Rd.tt [osl 68 3 (.slice A n c) n (encEs l)]
      (fun v V => ∃ (A' : Option Addr) (c' : Nat), v = .slice A' n c' ∧ V = [osl 68 3 (.slice A' n c') n (encEs l), osl 68 3 (.slice A n c) n (encEs l)]) := by
  subst hn
  refine trip Try.tabOk Try.func41 rfl rfl rfl rfl ?_
  rintro w SM -
  refine s_openP .z (fun hA => ?_)
  repeat' (first | refine e_nil ?_ | ((refine e_op ?_); (refine o_n (peval_sound rfl) rfl ?_)) | refine s_seq ?_ | refine s_region ?_)
  refine e_op (o_n (n_eqlNil62 rfl) rfl ?_)
  repeat' (refine e_nil ?_)
  refine s_cond rfl (fun h => ?_) (fun h => ?_)
  · have hl : l = [] := by
      rcases Nat.eq_zero_or_pos l.length with h2 | h2
      · exact List.eq_nil_of_length_eq_zero h2
      · obtain ⟨b, rfl⟩ := hA h2; cases h
    subst hl
    repeat' (first | refine e_nil ?_ | ((refine e_op ?_); (refine o_n (peval_sound rfl) rfl ?_)) | refine s_seq ?_ | refine s_region ?_)
    refine s_ret ⟨_, _, res1 rfl rfl, ⟨none, 0, rfl, rfl⟩, Ent.osl0 (Ent.refl _)⟩
  repeat' (first | refine s_seq ?_ | refine s_region ?_ | refine s_skip ?_)
  refine e_op (o_lit (cs := []) rfl rfl rfl rfl rfl rfl rfl (fun b4 => ?_))
  repeat' (((refine e_op ?_); (refine o_n (peval_sound rfl) rfl ?_)))
  refine e_op (o_appendO (n := 0) (m := l.length) (xs := []) (ys := encEs l) (fun A' c' => [osl 68 3 (.slice A' (0 + l.length) c') (0 + l.length) ([] ++ encEs l), osl 68 3 (.slice A l.length c) l.length (encEs l)]) rfl rfl rfl rfl (.s .z) (encEs_one _) rfl (by simp only; omega) (by omega) rfl (fun A' c' => .z) (fun A5 c5 => ?_))
  simp only [Nat.zero_add, List.nil_append]
  repeat' (first | refine e_nil ?_ | ((refine e_op ?_); (refine o_n (peval_sound rfl) rfl ?_)))
  refine s_ret ⟨_, _, res1 rfl rfl, ⟨A5, c5, rfl, rfl⟩, Ent.refl _⟩

end Go.Proofs.Ytjeimmekhfhepaa

namespace Go.Proofs.Ytjeimmekhfhepaa
set_option linter.all false
open Go.Proofs.Ytjeimmekhfhepaa.E

abbrev AcL := List (Option Addr × Nat)
def keyE (x : EI) : K3 := (x.p, x.d, x.f)
/-- What is known at a place, as the program's map has it. -/
def mpE (r : List EI) : List (K3 × Value) := r.map fun x => (keyE x, Value.bool true)
abbrev mpA (b : Nat) (r : List EI) : Asn := mapS enc3 b (mpE r) (List.range r.length) r.length
/-- The cells of a chart: grammar, terms, rows, maps. -/
def chC (gs : List Value) (K : Value) (hcs : AcL) (R : List (List EI)) (bs : List Nat) : List Value := gs ++ K :: (rowC hcs R ++ bs.map fun b => Value.map (some b))
abbrev chR (hcs : AcL) (R : List (List EI)) : Asn := bun (rowX encEs 3 68 hcs R)
abbrev chM (bs : List Nat) (R : List (List EI)) : Asn := bun (List.zipWith mpA bs R)
/-- All has the lengths that it has to have. -/
structure ChN (gs : List Value) (hcs : AcL) (R : List (List EI)) (bs : List Nat) : Prop where
  g : gs.length = 5
  h : hcs.length = 61
  r : R.length = 61
  b : bs.length = 61

theorem keyE_inj {x y : EI} (h : keyE x = keyE y) : x = y := by
  obtain ⟨a, b, c⟩ := x
  obtain ⟨a', b', c'⟩ := y
  unfold keyE at h
  simp only [Prod.mk.injEq] at h
  obtain ⟨rfl, rfl, rfl⟩ := h; rfl
theorem look_mpE {r : List EI} {x : EI} : lookK (mpE r) (keyE x) = if x ∈ r then some (.bool true) else none := by
  unfold mpE lookK
  induction r with
  | nil => rfl
  | cons y r ih =>
    rw [List.map_cons]
    by_cases e : y = x
    · subst e
      rw [List.find?_cons_of_pos (by simp), if_pos (List.mem_cons_self ..)]; rfl
    · rw [List.find?_cons_of_neg (by simpa using fun h => e (keyE_inj h)), ih]
      by_cases h2 : x ∈ r
      · rw [if_pos h2, if_pos (List.mem_cons_of_mem _ h2)]
      · rw [if_neg h2, if_neg (fun h => (List.mem_cons.1 h).elim (fun h => e h.symm) h2)]
theorem mpE_snoc (r : List EI) (x : EI) : mpE (r ++ [x]) = mpE r ++ [(keyE x, .bool true)] := by unfold mpE; rw [List.map_append]; rfl

section cells
variable {gs : List Value} {K : Value} {hcs : AcL} {R : List (List EI)} {bs : List Nat}
theorem chC_len (H : ChN gs hcs R bs) : (chC gs K hcs R bs).length = 128 := by
  unfold chC
  have := rowC_len (acs := hcs) (rows := R) (by rw [H.h, H.r])
  rw [List.length_append, List.length_cons, List.length_append, this, List.length_map, H.g, H.r, H.b]
theorem chC_row (H : ChN gs hcs R bs) {i o : Nat} (hi : i < R.length) (ho : o = 6 + i) {e : TypeId} {b : Nat} {z : List Value} {s : Nat} : loadL ⟨.slice e, s, b, z⟩ (chC gs K hcs R bs) o = some (.slice (hcs[i]'(by rw [H.h]; rw [H.r] at hi; exact hi)).1 R[i].length (hcs[i]'(by rw [H.h]; rw [H.r] at hi; exact hi)).2) := by
  subst ho
  refine load_cell rfl ?_
  unfold chC
  have hl : hcs.length = R.length := by rw [H.h, H.r]
  have hr := rowC_len hl
  rw [List.getElem?_append_right (by rw [H.g]; omega), H.g, show 6 + i - 5 = i + 1 by omega, List.getElem?_cons_succ, List.getElem?_append_left (by omega)]
  exact rowC_get hl hi
theorem chC_map (H : ChN gs hcs R bs) {i o : Nat} (hi : i < bs.length) (ho : o = 67 + i) {kt e : TypeId} {b : Nat} {z : List Value} {s : Nat} : loadL ⟨.map kt e, s, b, z⟩ (chC gs K hcs R bs) o = some (.map (some bs[i])) := by
  subst ho
  refine load_cell rfl ?_
  unfold chC
  have hl : hcs.length = R.length := by rw [H.h, H.r]
  have hr := rowC_len hl
  have h61 := H.r
  rw [List.getElem?_append_right (by rw [H.g]; omega), H.g, show 67 + i - 5 = (61 + i) + 1 by omega, List.getElem?_cons_succ, List.getElem?_append_right (by omega), hr, h61, show 61 + i - 61 = i by omega, List.getElem?_map, List.getElem?_eq_getElem hi]; rfl
theorem chC_setRow (H : ChN gs hcs R bs) {i o : Nat} (hi : i < R.length) (ho : o = 6 + i) (ac : Option Addr × Nat) (r : List EI) : setMany (chC gs K hcs R bs) o [.slice ac.1 r.length ac.2] = chC gs K (hcs.set i ac) (R.set i r) bs := by
  subst ho
  have hl : hcs.length = R.length := by rw [H.h, H.r]
  have hr := rowC_len hl
  show (chC gs K hcs R bs).set (6 + i) _ = _
  unfold chC
  rw [List.set_append_right _ _ (by rw [H.g]; omega), H.g, show 6 + i - 5 = i + 1 by omega, List.set_cons_succ, List.set_append_left _ _ (by omega), rowC_set2 hl]
end cells

end Go.Proofs.Ytjeimmekhfhepaa

namespace Go.Proofs.Ytjeimmekhfhepaa
set_option linter.all false
open Go.Proofs.Ytjeimmekhfhepaa.E

section buns
variable {V : List Asn} {L : List Asn} {i : Nat} {A B : Asn}
theorem ent_bunAt (h : L[i]? = some A) : Ent (bun L :: V) (A :: bun (L.eraseIdx i) :: V) := ent_unbun.trans ((Ent.tak (tak_get h) (Ent.refl _)).trans (Ent.cons ent_bun))
theorem ent_bunSet (h : L[i]? = some A) : Ent (B :: bun (L.eraseIdx i) :: V) (bun (L.set i B) :: V) := (Ent.cons ent_unbun).trans ((ent_put h).trans ent_bun)
end buns
theorem mpL_get {bs : List Nat} {R : List (List EI)} (h : bs.length = R.length) {i : Nat} (hi : i < R.length) : (List.zipWith mpA bs R)[i]? = some (mpA (bs[i]'(h ▸ hi)) R[i]) := by
  rw [List.getElem?_eq_getElem (by simp [h]; exact hi), List.getElem_zipWith]
theorem mpL_set {bs : List Nat} {R : List (List EI)} (h : bs.length = R.length) {i : Nat} (hi : i < R.length) (r : List EI) : (List.zipWith mpA bs R).set i (mpA (bs[i]'(h ▸ hi)) r) = List.zipWith mpA bs (R.set i r) := by
  apply List.ext_getElem
  · simp
  · intro j h1 h2
    rw [List.getElem_zipWith, List.getElem_set, List.getElem_set]
    split
    · rename_i e; subst e; rfl
    · rw [List.getElem_zipWith]

attribute [local irreducible] EVX EVO EVL EV1 NEV
attribute [local irreducible] own osl exA rdA rdL
attribute [local irreducible] bldA mapA bun mapS nums
set_option maxRecDepth 10000
set_option maxHeartbeats 4000000

theorem add_w (bc : Nat) (gs : List Value) (K : Value) (hcs : AcL) (R : List (List EI)) (bs : List Nat) (H : ChN gs hcs R bs) (i : Nat) (hi : i < R.length) (x : EI) (hlen : R[i].length ≤ 1000000) :
    Trip Try.prog 34 [ptrN bc, .int .i64 i, enc3 (keyE x)] Rd.tt [blk bc 66 (chC gs K hcs R bs), chR hcs R, chM bs R]
      (fun v V => ∃ hcs', v = .tuple #[] ∧ hcs'.length = 61 ∧ V = [blk bc 66 (chC gs K hcs' (addR R i x) bs), chR hcs' (addR R i x), chM bs (addR R i x)]) := by
  have hi61 : i < 61 := by rw [← H.r]; exact hi
  have hib : i < bs.length := by rw [H.b]; exact hi61
  have hhl : hcs.length = R.length := by rw [H.h, H.r]
  have hbl : bs.length = R.length := by rw [H.b, H.r]
  have hgd : R.getD i [] = R[i] := by rw [List.getD_eq_getElem?_getD, List.getElem?_eq_getElem hi]; rfl
  have hmg := mpL_get hbl hi
  refine trip Try.tabOk Try.func34 rfl rfl rfl rfl ?_
  rintro w SM -
  obtain ⟨xp, xd, xf⟩ := x
  unfold keyE enc3
  repeat' (first | refine e_nil ?_ | ((refine e_op ?_); (refine o_box rfl rfl (fun _ => ?_))) | refine s_seq ?_ | refine s_region ?_)
  refine s_drawU [] Try.mixed (by decide +kernel) ?_
  repeat' (((refine l_n (peval_sound rfl) rfl ?_ rfl ?_); · (exact Ent.refl _)))
  refine l_n (n_indexA rfl rfl rfl rfl i rfl hi61) rfl (Ent.refl _) rfl ?_
  refine l_n (nl rfl rfl tc (chC_map H hib (by show 0 + 67 + i * 1 = 67 + i; omega))) rfl (Ent.refl _) rfl ?_
  repeat' (((refine l_n (nl rfl rfl tc rfl) rfl ?_ rfl ?_); · (exact Ent.refl _)))
  refine l_n (NEV.weak (Ent.trans (Ent.tak (TakA.tak (A := chM bs R)) (Ent.refl _)) ((ent_bunAt hmg).trans ent_mapS)) (n_lookup (z := .bool false) (k := keyE ⟨xp, xd, xf⟩) rfl mkey68 (fun w => by kernel_rfl) rfl rfl rfl .z)) rfl (Ent.refl _) rfl ?_
  rw [look_mpE]
  by_cases hm : (⟨xp, xd, xf⟩ : EI) ∈ R[i]
  · rw [if_pos hm]
    repeat' (first | refine l_nil ?_ | ((refine l_n (peval_sound rfl) rfl ?_ rfl ?_); · (exact Ent.refl _)))
    repeat' (first | refine s_skip ?_ | refine s_false rfl ?_)
    refine s_nil ?_
    refine ⟨_, _, res0 rfl, ⟨hcs, rfl, H.h, rfl⟩, ?_⟩
    have e : addR R i ⟨xp, xd, xf⟩ = R := by unfold addR; rw [hgd, if_pos hm]
    rw [e]
    exact Ent.wk (Ent.refl _)
  rw [if_neg hm]
  have e : addR R i ⟨xp, xd, xf⟩ = R.set i (R[i] ++ [⟨xp, xd, xf⟩]) := by unfold addR; rw [hgd, if_neg hm]
  have hno : lookK (mpE R[i]) (keyE ⟨xp, xd, xf⟩) = none := by rw [look_mpE, if_neg hm]
  repeat' (first | refine l_nil ?_ | ((refine l_n (peval_sound rfl) rfl ?_ rfl ?_); · (exact Ent.refl _)))
  rename_i b5
  refine s_weak (fr' := [(14, .bool true), (5, ptrN b5), (0, ptrN bc), (1, .int .i64 i)]) (V := [mpA (bs[i]'hib) R[i], bun ((List.zipWith mpA bs R).eraseIdx i), rowA encEs 3 68 (hcs[i]'(hhl ▸ hi)) R[i], bun ((rowX encEs 3 68 hcs R).eraseIdx i), blk b5 68 [.int .i64 xp, .int .i64 xd, .int .i64 xf], blk bc 66 (chC gs K hcs R bs)]) ?_ ?_ ?_
  · repeat' (first | exact Sub.nil _ | refine Sub.cons rfl ?_)
  · refine Ent.trans (Ent.tak (TakA.tak (A := chM bs R)) (Ent.refl _)) ((ent_bunAt hmg).trans (Ent.cons (Ent.cons ?_)))
    refine Ent.trans (Ent.tak (TakA.tak (A := chR hcs R)) (Ent.refl _)) ((ent_btake hhl hi).trans ?_)
    exact Ent.refl _
  repeat' (first | refine s_seq ?_ | refine s_true rfl ?_)
  refine s_P Try.mixed (by decide +kernel) ?_
  refine p_barU 7 ?_
  refine q_n 0 rfl (peval_sound rfl) (by decide +kernel) (by decide +kernel) (Ent.refl _) rfl ?_
  refine q_n 1 rfl (peval_sound rfl) (by decide +kernel) (by decide +kernel) (Ent.refl _) rfl ?_
  refine q_n 2 rfl (peval_sound rfl) (by decide +kernel) (by decide +kernel) (Ent.refl _) rfl ?_
  refine q_n 3 rfl (peval_sound rfl) (by decide +kernel) (by decide +kernel) (Ent.refl _) rfl ?_
  refine q_n 4 rfl (n_indexA rfl rfl rfl rfl i rfl hi61) (by decide +kernel) (by decide +kernel) (Ent.refl _) rfl ?_
  refine q_n 5 rfl (nl rfl rfl tc (chC_map H hib (by show 0 + 67 + i * 1 = 67 + i; omega))) (by decide +kernel) (by decide +kernel) (Ent.refl _) rfl ?_
  refine q_n 6 rfl (nl rfl rfl tc rfl) (by decide +kernel) (by decide +kernel) (Ent.refl _) rfl ?_
  refine q_z 7 (by decide +kernel) rfl rfl (o_mapUpdateS (v := .bool true) (k := keyE ⟨xp, xd, xf⟩) rfl mkey68 rfl rfl rfl rfl hno .z ?_)
  refine p_done (by decide +kernel) ?_
  obtain ⟨r', hr'⟩ : ∃ r', r' = R[i] ++ [(⟨xp, xd, xf⟩ : EI)] := ⟨_, rfl⟩
  have hrl : r'.length = R[i].length + 1 := by rw [hr', List.length_append]; rfl
  have hre : encEs r' = encEs R[i] ++ encE ⟨xp, xd, xf⟩ := by rw [hr']; unfold encEs; rw [List.flatMap_append]; simp
  have hmp : mpA (bs[i]'hib) r' = mapS enc3 (bs[i]'hib) (mpE R[i] ++ [(keyE ⟨xp, xd, xf⟩, Value.bool true)]) (List.range R[i].length ++ [R[i].length]) (R[i].length + 1) := by
    show mapS _ _ (mpE r') (List.range r'.length) r'.length = _
    rw [hrl, hr', mpE_snoc, List.range_succ]
  rw [← hmp]
  refine s_weak (fr' := [(5, ptrN b5), (0, ptrN bc), (1, .int .i64 i)]) (V := [mpA (bs[i]'hib) r', bun ((List.zipWith mpA bs R).eraseIdx i), osl 68 3 (.slice (hcs[i]'(hhl ▸ hi)).1 R[i].length (hcs[i]'(hhl ▸ hi)).2) R[i].length (encEs R[i]), bun ((rowX encEs 3 68 hcs R).eraseIdx i), blk b5 68 [.int .i64 xp, .int .i64 xd, .int .i64 xf], blk bc 66 (chC gs K hcs R bs)]) ?_ (Ent.refl _) ?_
  · repeat' (first | exact Sub.nil _ | refine Sub.cons rfl ?_)
  skip
  refine s_P Try.mixed (by decide +kernel) ?_
  refine p_bar 14 [mpA (bs[i]'hib) r', bun ((List.zipWith mpA bs R).eraseIdx i), bun ((rowX encEs 3 68 hcs R).eraseIdx i), blk b5 68 [.int .i64 xp, .int .i64 xd, .int .i64 xf], blk bc 66 (chC gs K hcs R bs)] ?_
  have hen : Ent [mpA (bs[i]'hib) r', bun ((List.zipWith mpA bs R).eraseIdx i), osl 68 3 (.slice (hcs[i]'(hhl ▸ hi)).1 R[i].length (hcs[i]'(hhl ▸ hi)).2) R[i].length (encEs R[i]), bun ((rowX encEs 3 68 hcs R).eraseIdx i), blk b5 68 [.int .i64 xp, .int .i64 xd, .int .i64 xf], blk bc 66 (chC gs K hcs R bs)] [mpA (bs[i]'hib) r', bun ((List.zipWith mpA bs R).eraseIdx i), bun ((rowX encEs 3 68 hcs R).eraseIdx i), blk b5 68 [.int .i64 xp, .int .i64 xd, .int .i64 xf], blk bc 66 (chC gs K hcs R bs)] := Ent.cons (Ent.cons (Ent.wk (Ent.refl _)))
  refine q_n 0 rfl (peval_sound rfl) (by decide +kernel) (by decide +kernel) hen rfl ?_
  refine q_n 1 rfl (peval_sound rfl) (by decide +kernel) (by decide +kernel) hen rfl ?_
  refine q_n 2 rfl (peval_sound rfl) (by decide +kernel) (by decide +kernel) hen rfl ?_
  refine q_n 3 rfl (peval_sound rfl) (by decide +kernel) (by decide +kernel) hen rfl ?_
  refine q_n 4 rfl (peval_sound rfl) (by decide +kernel) (by decide +kernel) hen rfl ?_
  refine q_n 5 rfl (peval_sound rfl) (by decide +kernel) (by decide +kernel) hen rfl ?_
  refine q_n 6 rfl (n_indexA rfl rfl rfl rfl i rfl hi61) (by decide +kernel) (by decide +kernel) hen rfl ?_
  refine q_n 7 rfl (nl rfl rfl tc (chC_row H hi (by show 0 + 6 + i * 1 = 6 + i; omega))) (by decide +kernel) (by decide +kernel) hen rfl ?_
  refine q_n 8 rfl (nl rfl rfl tc rfl) (by decide +kernel) (by decide +kernel) hen rfl ?_
  refine q_n 11 rfl (peval_sound rfl) (by decide +kernel) (by decide +kernel) hen rfl ?_
  refine q_n 12 rfl (peval_sound rfl) (by decide +kernel) (by decide +kernel) hen rfl ?_
  refine q_1 9 (by decide +kernel) rfl rfl rfl (o_lit (ps := [(0, .agg (encE ⟨xp, xd, xf⟩).toArray)]) (cs := encE ⟨xp, xd, xf⟩) rfl rfl rfl rfl rfl rfl rfl (fun bl => ⟨Ent.wk hen, ?_⟩))
  refine q_1 10 (by decide +kernel) rfl rfl rfl (o_app1 (m := 1) (news := encE ⟨xp, xd, xf⟩) rfl rfl rfl rfl to uv rfl rfl rfl rfl (by omega) (by simp only; omega) rfl (by decide) (fun ba ca => ⟨Ent.wk (Ent.cons (Ent.cons (Ent.wk (Ent.refl _)))), ?_⟩))
  refine q_n 13 rfl (n_indexA rfl rfl rfl rfl i rfl hi61) (by decide +kernel) (by decide +kernel) (Ent.wk (Ent.cons (Ent.cons (Ent.wk (Ent.refl _))))) rfl ?_
  refine q_z 14 (by decide +kernel) rfl rfl (o_storeC rfl rfl rfl rfl tc uc rfl rfl (by rw [chC_len H]; exact Nat.ble_eq_true_of_le (by show 0 + 6 + i * 1 + 1 ≤ 128; omega)) ?_)
  refine p_done (by decide +kernel) ?_
  have hset := chC_setRow (K := K) H hi (o := 0 + 6 + i * 1) (by omega) (some ⟨ba, 0, none⟩, ca) r'
  rw [hrl] at hset
  skip
  refine s_nil ?_
  refine ⟨_, _, res0 rfl, ⟨hcs.set i (some ⟨ba, 0, none⟩, ca), rfl, by rw [List.length_set]; exact H.h, rfl⟩, ?_⟩
  rw [e, ← hr', ← hset]
  have e7 : osl 68 3 (.slice (some ⟨ba, 0, none⟩) (R[i].length + 1) ca) (R[i].length + 1) (encEs R[i] ++ encE ⟨xp, xd, xf⟩) = rowA encEs 3 68 (some ⟨ba, 0, none⟩, ca) r' := by unfold rowA; rw [hrl, hre]
  refine Ent.trans (V := [mpA (bs[i]'hib) r', bun ((List.zipWith mpA bs R).eraseIdx i), rowA encEs 3 68 (some ⟨ba, 0, none⟩, ca) r', bun ((rowX encEs 3 68 hcs R).eraseIdx i), blk bc 66 (setMany (chC gs K hcs R bs) (0 + 6 + i * 1) [.slice (some ⟨ba, 0, none⟩) (R[i].length + 1) ca])]) ?_ ?_
  · rw [← e7]
    exact Ent.wk (Ent.cons (Ent.cons (Ent.cons (Ent.cons (Ent.wk (Ent.refl _))))))
  · refine (ent_bunSet hmg).trans ?_
    rw [mpL_set hbl hi]
    refine Ent.tak (.s (.s (.s .z))) ?_
    refine Ent.trans (Ent.cons (ent_bput (V := []) hhl hi)) ?_
    exact Ent.tak (.s .z) (Ent.tak .z (Ent.nil _))

end Go.Proofs.Ytjeimmekhfhepaa

namespace Go.Proofs.Ytjeimmekhfhepaa
set_option linter.all false
open Go.Proofs.Ytjeimmekhfhepaa.E

def endB (g : Gram) (name : Int) (k : Nat) (x : EI) : Bool := decide (x.f = k) && (decide (lhs g x.p = name) && decide (x.d = (rhs g x.p).length))
theorem mpE_get {r : List EI} {i : Nat} (h : i < (mpE r).length) (h2 : i < r.length) : (mpE r)[i] = (keyE r[i], Value.bool true) := by
  have e : (mpE r)[i]? = some (keyE r[i], Value.bool true) := by unfold mpE; rw [List.getElem?_map, List.getElem?_eq_getElem h2]; rfl
  rw [List.getElem?_eq_getElem h] at e
  exact Option.some.inj e
theorem nodup_le {n : Nat} : ∀ {l : List Nat}, l.Nodup → (∀ i ∈ l, i < n) → l.length ≤ n := by
  induction n with
  | zero =>
    intro l _ h
    cases l with
    | nil => exact Nat.le_refl _
    | cons a l => exact absurd (h a (List.mem_cons_self ..)) (Nat.not_lt_zero _)
  | succ n ih =>
    intro l hn h
    by_cases hm : n ∈ l
    · have h2 := ih (l := l.erase n) (hn.erase n) (fun i hi => by
        have h3 := h i (List.mem_of_mem_erase hi)
        have h4 : i ≠ n := fun e => by subst e; exact (List.Nodup.not_mem_erase hn) hi
        omega)
      have := List.length_erase_of_mem hm
      omega
    · have h2 := ih hn (fun i hi => by
        have h3 := h i hi
        have h4 : i ≠ n := fun e => by subst e; exact hm hi
        omega)
      omega

attribute [local irreducible] EVX EVO EVL EV1 NEV
attribute [local irreducible] own osl exA rdA rdL
attribute [local irreducible] bldA mapA bun mapS nums iterA
set_option maxRecDepth 10000
set_option maxHeartbeats 4000000

theorem ended_w (bc : Nat) (A0 A1 A2 A3 A4 : Option Addr) (c0 c1 c2 c3 c4 : Nat) (K : Value) (hcs : AcL) (R : List (List EI)) (bs : List Nat) (g : Gram) (H : ChN [.slice A0 g.Terms.length c0, .slice A1 g.Levels.length c1, .slice A2 g.Pats.length c2, .slice A3 g.Nons.length c3, .slice A4 g.Prods.length c4] hcs R bs) (name : Int) (at_ : Nat) (hat : at_ < R.length) (hok : ∀ x ∈ R[at_], x.p < g.Prods.length) :
    Trip Try.prog 42 [ptrN bc, .int .i64 name, .int .i64 at_] (kGram.rd [.slice A0 g.Terms.length c0, .slice A1 g.Levels.length c1, .slice A2 g.Pats.length c2, .slice A3 g.Nons.length c3, .slice A4 g.Prods.length c4] g) [blk bc 66 (chC [.slice A0 g.Terms.length c0, .slice A1 g.Levels.length c1, .slice A2 g.Pats.length c2, .slice A3 g.Nons.length c3, .slice A4 g.Prods.length c4] K hcs R bs), chM bs R]
      (fun v V => v = .bool (R[at_].any (endB g name at_)) ∧ V = [blk bc 66 (chC [.slice A0 g.Terms.length c0, .slice A1 g.Levels.length c1, .slice A2 g.Pats.length c2, .slice A3 g.Nons.length c3, .slice A4 g.Prods.length c4] K hcs R bs), chM bs R]) := by
  have hi61 : at_ < 61 := by rw [← H.r]; exact hat
  have hib : at_ < bs.length := by rw [H.b]; exact hi61
  have hbl : bs.length = R.length := by rw [H.b, H.r]
  have hmg := mpL_get hbl hat
  refine trip Try.tabOk Try.func42 rfl rfl rfl rfl ?_
  rintro w SM hR
  obtain ⟨_, _, _, _, _, _, _, _, _, _, ee, hG⟩ := kGram_open hR
  cases ee
  refine s_ent (V := [mpA (bs[at_]'hib) R[at_], bun ((List.zipWith mpA bs R).eraseIdx at_), blk bc 66 (chC [.slice A0 g.Terms.length c0, .slice A1 g.Levels.length c1, .slice A2 g.Pats.length c2, .slice A3 g.Nons.length c3, .slice A4 g.Prods.length c4] K hcs R bs)]) ((Ent.tak (.s .z) (Ent.refl _)).trans (ent_bunAt hmg)) ?_
  have hback : Ent [mpA (bs[at_]'hib) R[at_], bun ((List.zipWith mpA bs R).eraseIdx at_), blk bc 66 (chC [.slice A0 g.Terms.length c0, .slice A1 g.Levels.length c1, .slice A2 g.Pats.length c2, .slice A3 g.Nons.length c3, .slice A4 g.Prods.length c4] K hcs R bs)] [blk bc 66 (chC [.slice A0 g.Terms.length c0, .slice A1 g.Levels.length c1, .slice A2 g.Pats.length c2, .slice A3 g.Nons.length c3, .slice A4 g.Prods.length c4] K hcs R bs), chM bs R] := by
    have h := ent_bunSet (V := [blk bc 66 (chC [.slice A0 g.Terms.length c0, .slice A1 g.Levels.length c1, .slice A2 g.Pats.length c2, .slice A3 g.Nons.length c3, .slice A4 g.Prods.length c4] K hcs R bs)]) (B := mpA (bs[at_]'hib) R[at_]) hmg
    rw [mpL_set hbl hat, List.set_getElem_self] at h
    exact h.trans (Ent.tak (.s .z) (Ent.refl _))
  generalize hr : R[at_] = r at hok hback ⊢
  repeat' (first | refine e_nil ?_ | ((refine e_op ?_); (refine o_n (peval_sound rfl) rfl ?_)) | refine s_seq ?_ | refine s_region ?_)
  refine e_op (o_n (n_indexA rfl rfl rfl rfl at_ rfl hi61) rfl ?_)
  refine e_op (o_n (nl rfl rfl tc (chC_map H hib (by show 0 + 67 + at_ * 1 = 67 + at_; omega))) rfl ?_)
  refine e_op (o_range (enc := enc3) (l := mpE r) (st := List.range r.length) (ck := r.length) rfl rfl .z rfl (fun ri => ?_))
  repeat' (first | refine e_nil ?_ | refine s_block ?_)
  have hml : (mpE r).length = r.length := by unfold mpE; simp
  refine s_loopK (ι := {ix : List Nat // ix.Nodup ∧ (∀ i ∈ ix, i < r.length) ∧ ∀ i (h : i < r.length), i ∈ ix → endB g name at_ r[i] = false}) [14, 0, 1, 2] rfl ⟨[], List.nodup_nil, (fun i h => nomatch h), (fun i _ h => nomatch h)⟩ (fun _ => [])
    (fun ix => [iterA ri (bs[at_]'hib) (List.range r.length) r.length ix.1, mpA (bs[at_]'hib) r, bun ((List.zipWith mpA bs R).eraseIdx at_), blk bc 66 (chC [.slice A0 g.Terms.length c0, .slice A1 g.Levels.length c1, .slice A2 g.Pats.length c2, .slice A3 g.Nons.length c3, .slice A4 g.Prods.length c4] K hcs R bs)]) (fun ix => r.length - ix.1.length) ?_ (Ent.refl _) ?_
  · repeat' (first | exact Sub.nil _ | refine Sub.cons rfl ?_)
  rintro ⟨ix, hnd, hix, hno⟩
  simp only at hnd hix hno ⊢
  repeat' (first | refine s_seq ?_ | refine s_region ?_)
  refine e_op (o_next (enc := enc3) (l := mpE r) (st := List.range r.length) (ck := r.length) (F := fun ix' => [iterA ri (bs[at_]'hib) (List.range r.length) r.length ix', mpA (bs[at_]'hib) r, bun ((List.zipWith mpA bs R).eraseIdx at_), blk bc 66 (chC [.slice A0 g.Terms.length c0, .slice A1 g.Levels.length c1, .slice A2 g.Pats.length c2, .slice A3 g.Nons.length c3, .slice A4 g.Prods.length c4] K hcs R bs)]) rfl (.s .z) (fun ix' => .z) (fun i hi => by rw [hml]; exact hix i hi) rfl (fun hall => ?_) (fun i hi hni => ?_))
  · repeat' (first | refine e_nil ?_ | ((refine e_op ?_); (refine o_n (peval_sound rfl) rfl ?_)) | refine s_seq ?_ | refine s_region ?_ | refine s_exit ?_ | refine s_false rfl ?_ | refine x_hit ?_ | refine x_code ?_ | refine x_back ?_)
    refine s_ret ⟨_, _, res1 rfl rfl, ⟨?_, rfl⟩, Ent.wk hback⟩
    have : r.any (endB g name at_) = false := by
      rw [List.any_eq_false]
      intro x hx
      obtain ⟨i, hi, rfl⟩ := List.getElem_of_mem hx
      rw [hno i hi (hall i (by rw [hml]; exact hi))]; decide
    rw [this]
  · have hil : i < r.length := by rw [← hml]; exact hi
    have hk : (mpE r)[i] = (keyE r[i], Value.bool true) := mpE_get hi hil
    rw [hk]
    repeat' (first | refine e_nil ?_ | ((refine e_op ?_); (refine o_n (peval_sound rfl) rfl ?_)) | refine s_seq ?_ | refine s_region ?_ | refine s_block ?_ | refine s_skip ?_ | refine s_true rfl ?_)
    refine e_op (o_n (n_entry (enc := enc3) (l := mpE r) (i := i) rfl (.s .z) .z hi) rfl ?_)
    rw [hk]
    have hp := hok _ (List.getElem_mem hil)
    obtain ⟨x, hx⟩ : ∃ x, r[i] = x := ⟨_, rfl⟩
    rw [hx] at hp ⊢
    have hnext : endB g name at_ x = false → ∀ q (h : q < r.length), q ∈ ix ++ [i] → endB g name at_ r[q] = false := fun he q hq hm => by
      rcases List.mem_append.1 hm with h | h
      · exact hno q hq h
      · rw [List.mem_singleton] at h; subst h; rw [hx]; exact he
    have hnd2 : (ix ++ [i]).Nodup := by
      rw [List.nodup_append]
      exact ⟨hnd, by simp, fun a ha b hb e => by rw [List.mem_singleton] at hb; subst hb; subst e; exact hni ha⟩
    have hix2 : ∀ q ∈ ix ++ [i], q < r.length := fun q hq => by
      rcases List.mem_append.1 hq with h | h
      · exact hix q h
      · rw [List.mem_singleton] at h; subst h; exact hil
    have hrk : r.length - (ix ++ [i]).length < r.length - ix.length := by
      have := nodup_le hnd2 hix2
      rw [List.length_append, List.length_singleton] at this ⊢
      omega
    obtain ⟨xp, xd, xf⟩ := x
    obtain ⟨b9, o9, es9, rfl, hb9, he9, hc9⟩ := hG.prods.2.2 xp hp
    obtain ⟨Ar, cr, rfl, hl9, hlN, hlK, hri⟩ := kPrd_open he9
    unfold enc3 keyE
    repeat' (first | refine e_nil ?_ | ((refine e_op ?_); (first | refine o_n (peval_sound rfl) rfl ?_ | refine o_storeC rfl rfl rfl rfl tc uc rfl rfl rfl ?_ | refine o_alloc rfl rfl (fun _ => ?_))) | refine s_seq ?_)
    rename_i b7
    refine s_weak (fr' := [(7, ptrN b7), (14, ptrN ri), (0, ptrN bc), (1, .int .i64 name), (2, .int .i64 at_)]) (V := blk b7 68 [.int .i64 xp, .int .i64 xd, .int .i64 xf] :: [iterA ri (bs[at_]'hib) (List.range r.length) r.length (ix ++ [i]), mpA (bs[at_]'hib) r, bun ((List.zipWith mpA bs R).eraseIdx at_), blk bc 66 (chC [.slice A0 g.Terms.length c0, .slice A1 g.Levels.length c1, .slice A2 g.Pats.length c2, .slice A3 g.Nons.length c3, .slice (some ⟨b9, o9, none⟩) g.Prods.length c4] K hcs R bs)]) ?_ (Ent.refl _) ?_
    · repeat' (first | exact Sub.nil _ | refine Sub.cons rfl ?_)
    have hl0 := lhs_at hp
    have hr0 := rhs_at hp
    skip
    refine s_drawU [] Try.mixed (by decide +kernel) ?_
    repeat' (((first | refine l_n (peval_sound rfl) rfl ?_ rfl ?_ | refine l_n (nl rfl rfl tc rfl) rfl ?_ rfl ?_); · (exact Ent.refl _)))
    by_cases h1 : xf = at_
    · rw [show ((xf : Int) == (at_ : Int)) = true by rw [beq_iff_eq]; omega]
      repeat' (((first | refine l_ny rfl (peval_sound rfl) rfl ?_ rfl ?_ | refine l_ny rfl (nl rfl rfl tc rfl) rfl ?_ rfl ?_); · (exact Ent.refl _)))
      refine l_ny rfl (n_index rfl rfl rfl rfl xp rfl hp) rfl (Ent.refl _) rfl ?_
      repeat' (((refine l_ny rfl (peval_sound rfl) rfl ?_ rfl ?_); · (exact Ent.refl _)))
      refine l_ny rfl (n_load_ro rfl rfl hb9 (loads_one rfl (hc9 0 _ rfl))) rfl (Ent.refl _) rfl ?_
      repeat' (((first | refine l_n (peval_sound rfl) rfl ?_ rfl ?_ | refine l_ny rfl (peval_sound rfl) rfl ?_ rfl ?_); · (exact Ent.refl _)))
      by_cases h2 : g.Prods[xp].Left = name
      · rw [show (g.Prods[xp].Left == name) = true by simpa using h2]
        repeat' (((first | refine l_ny rfl (peval_sound rfl) rfl ?_ rfl ?_ | refine l_ny rfl (nl rfl rfl tc rfl) rfl ?_ rfl ?_); · (exact Ent.refl _)))
        refine l_ny rfl (n_index rfl rfl rfl rfl xp rfl hp) rfl (Ent.refl _) rfl ?_
        repeat' (((refine l_ny rfl (peval_sound rfl) rfl ?_ rfl ?_); · (exact Ent.refl _)))
        refine l_ny rfl (n_load_ro rfl rfl hb9 (loads_one rfl (hc9 1 _ rfl))) rfl (Ent.refl _) rfl ?_
        repeat' (first | refine l_nil ?_ | ((first | refine l_n (peval_sound rfl) rfl ?_ rfl ?_ | refine l_ny rfl (peval_sound rfl) rfl ?_ rfl ?_); · (exact Ent.refl _)))
        by_cases h3 : xd = g.Prods[xp].Right.length
        · rw [show ((xd : Int) == (g.Prods[xp].Right.length : Int)) = true by rw [beq_iff_eq]; omega]
          skip
          repeat' (first | refine e_nil ?_ | ((refine e_op ?_); (refine o_n (peval_sound rfl) rfl ?_)) | refine s_seq ?_ | refine s_region ?_ | refine s_true rfl ?_)
          refine s_ret ⟨_, _, res1 rfl rfl, ⟨?_, rfl⟩, Ent.wk (Ent.wk hback)⟩
          have : r.any (endB g name at_) = true := by
            rw [List.any_eq_true]
            refine ⟨_, List.getElem_mem hil, ?_⟩
            rw [hx]
            unfold endB
            simp only
            rw [decide_eq_true h1, hl0, decide_eq_true h2, hr0, decide_eq_true h3]; rfl
          rw [this]
        · rw [show ((xd : Int) == (g.Prods[xp].Right.length : Int)) = false by rw [beq_eq_false_iff_ne]; omega]
          have he : endB g name at_ ⟨xp, xd, xf⟩ = false := by
            unfold endB
            simp only
            rw [hr0, decide_eq_false h3, Bool.and_false, Bool.and_false]
          skip
          repeat' (first | refine s_end ?_ | refine s_skip ?_ | refine s_false rfl ?_)
          refine s_back ⟨⟨ix ++ [i], hnd2, hix2, hnext he⟩, hrk, ?_, Ent.wk (Ent.refl _)⟩
          repeat' (first | exact Sub.nil _ | refine Sub.cons rfl ?_)
      · rw [show (g.Prods[xp].Left == name) = false by simpa using h2]
        have he : endB g name at_ ⟨xp, xd, xf⟩ = false := by
          unfold endB
          simp only
          rw [hl0, decide_eq_false h2, Bool.false_and, Bool.and_false]
        repeat' (first | refine l_nil ?_ | ((first | refine l_no rfl rfl rfl ?_ rfl ?_ | refine l_n (peval_sound rfl) rfl ?_ rfl ?_); · (exact Ent.refl _)))
        repeat' (first | refine s_end ?_ | refine s_skip ?_ | refine s_false rfl ?_)
        refine s_back ⟨⟨ix ++ [i], hnd2, hix2, hnext he⟩, hrk, ?_, Ent.wk (Ent.refl _)⟩
        repeat' (first | exact Sub.nil _ | refine Sub.cons rfl ?_)
    · rw [show ((xf : Int) == (at_ : Int)) = false by rw [beq_eq_false_iff_ne]; omega]
      have he : endB g name at_ ⟨xp, xd, xf⟩ = false := by
        unfold endB
        simp only
        rw [decide_eq_false h1, Bool.false_and]
      repeat' (first | refine l_nil ?_ | ((first | refine l_no rfl rfl rfl ?_ rfl ?_ | refine l_n (peval_sound rfl) rfl ?_ rfl ?_); · (exact Ent.refl _)))
      repeat' (first | refine s_end ?_ | refine s_skip ?_ | refine s_false rfl ?_)
      refine s_back ⟨⟨ix ++ [i], hnd2, hix2, hnext he⟩, hrk, ?_, Ent.wk (Ent.refl _)⟩
      repeat' (first | exact Sub.nil _ | refine Sub.cons rfl ?_)

end Go.Proofs.Ytjeimmekhfhepaa

namespace Go.Proofs.Ytjeimmekhfhepaa
set_option linter.all false
open Go.Proofs.Ytjeimmekhfhepaa.E

structure GrS where
  m : Nat
  fr : Bool
  W : Ws
  lw : List (K3 × Value)
  st : List Nat
  cm : Nat
structure SuS where
  q : Nat
  l : List (K3 × Value)
  st : List Nat
  ck : Nat

structure RnS where
  ix : List Nat
  fr : Bool
  W : Ws
  lw : List (K3 × Value)
  st : List Nat
  cm : Nat

attribute [local irreducible] EVX EVO EVL EV1 NEV
attribute [local irreducible] own osl exA rdA rdL
attribute [local irreducible] bldA mapA bun mapS nums iterA mapV
set_option maxRecDepth 10000
set_option maxHeartbeats 4000000

theorem cgrow_w (bc bw : Nat) (A0 A1 A2 A3 A4 : Option Addr) (c0 c1 c2 c3 c4 : Nat) (g : Gram) (Ak : Option Addr) (ck : Nat) (w : List Int) (lw : List (K3 × Value)) (st : List Nat) (cm : Nat) (W : Ws) (hW : Tells lw W) (hW2 : Two W) (hw : w.length ≤ 60) (hS : GSm g) :
    Trip Try.prog 26 [ptrN bc] ((kGram.rd [.slice A0 g.Terms.length c0, .slice A1 g.Levels.length c1, .slice A2 g.Pats.length c2, .slice A3 g.Nons.length c3, .slice A4 g.Prods.length c4] g).and ((kslice 8 kint).rd [.slice Ak w.length ck] w)) [blk bc 73 [.slice A0 g.Terms.length c0, .slice A1 g.Levels.length c1, .slice A2 g.Pats.length c2, .slice A3 g.Nons.length c3, .slice A4 g.Prods.length c4, .slice Ak w.length ck, .map (some bw)], mapS enc3 bw lw st cm]
      (fun v V => ∃ fr lw' st' cm', v = .bool fr ∧ Tells lw' (growW g w W) ∧ Fre g.Nons.length w.length W (growW g w W) fr ∧ V = [blk bc 73 [.slice A0 g.Terms.length c0, .slice A1 g.Levels.length c1, .slice A2 g.Pats.length c2, .slice A3 g.Nons.length c3, .slice A4 g.Prods.length c4, .slice Ak w.length ck, .map (some bw)], mapS enc3 bw lw' st' cm']) := by
  refine trip Try.tabOk Try.func26 rfl rfl rfl rfl ?_
  rintro wd SM ⟨hG0, hK⟩
  have hGo := hG0
  obtain ⟨_, _, _, _, _, _, _, _, _, _, ee, hG⟩ := kGram_open hG0
  cases ee
  obtain ⟨b9, o9, es9, hA4, hb9, he9, hc9⟩ := hG.prods.2.2 0 hS.n0
  subst hA4
  repeat' (first | refine e_nil ?_ | ((refine e_op ?_); (first | refine o_n (peval_sound rfl) rfl ?_ | refine o_n (nl rfl rfl tc rfl) rfl ?_)) | refine s_seq ?_ | refine s_region ?_ | refine s_block ?_)
  refine s_loopK (ι := {z : GrS // z.m ≤ w.length + 1 ∧ Tells z.lw z.W ∧ Two z.W ∧ growTo g w z.W z.m = growW g w W ∧ Fre g.Nons.length w.length W z.W z.fr}) [0] rfl ⟨⟨w.length + 1, false, W, lw, st, cm⟩, Nat.le_refl _, hW, hW2, rfl, Fre.begin _ _ _⟩ (fun z => [(3, .bool z.1.fr), (4, .int .i64 ((z.1.m : Int) - 1))])
    (fun z => [blk bc 73 [.slice A0 g.Terms.length c0, .slice A1 g.Levels.length c1, .slice A2 g.Pats.length c2, .slice A3 g.Nons.length c3, .slice (some ⟨b9, o9, none⟩) g.Prods.length c4, .slice Ak w.length ck, .map (some bw)], mapS enc3 bw z.1.lw z.1.st z.1.cm]) (fun z => z.1.m) ?_ (Ent.refl _) ?_
  · show E.Sub _ ([(3, .bool false), (4, .int .i64 (((w.length + 1 : Nat) : Int) - 1))] ++ [(0, ptrN bc)])
    rw [show (((w.length + 1 : Nat) : Int) - 1) = (w.length : Int) by omega]
    repeat' (first | exact Sub.nil _ | refine Sub.cons rfl ?_)
  rintro ⟨⟨m, fr, V, lv, sv, cv⟩, hm, hV, hV2, hVW, hF⟩
  simp only at hm hV hV2 hVW hF ⊢
  repeat' (first | refine e_nil ?_ | ((refine e_op ?_); (refine o_n (peval_sound rfl) rfl ?_)) | refine s_seq ?_ | refine s_region ?_)
  by_cases hm0 : m = 0
  · subst hm0
    rw [decide_eq_false (by omega : ¬ (((0 : Nat) : Int) - 1) ≥ 0)]
    repeat' (first | refine e_nil ?_ | ((refine e_op ?_); (refine o_n (peval_sound rfl) rfl ?_)) | refine s_seq ?_ | refine s_region ?_ | refine s_exit ?_ | refine s_false rfl ?_ | refine x_hit ?_ | refine x_code ?_ | refine x_back ?_)
    have e : V = growW g w W := hVW
    subst e
    exact s_ret ⟨_, _, res1 rfl rfl, ⟨fr, lv, sv, cv, rfl, hV, hF, rfl⟩, Ent.refl _⟩
  obtain ⟨f, rfl⟩ : ∃ f, m = f + 1 := ⟨m - 1, by omega⟩
  have hf1 : (((f + 1 : Nat) : Int) - 1) = (f : Int) := by omega
  rw [hf1, decide_eq_true (by omega : (f : Int) ≥ 0)]
  repeat' (first | refine s_seq ?_ | refine s_region ?_ | refine s_block ?_ | refine s_skip ?_ | refine s_true rfl ?_)
  refine e_op (o_newMapS enc3 rfl (fun bs => ?_))
  repeat' (first | refine e_nil ?_ | ((refine e_op ?_); (first | refine o_n (peval_sound rfl) rfl ?_ | refine o_n (nl rfl rfl tc rfl) rfl ?_)) | refine s_seq ?_ | refine s_region ?_ | refine s_block ?_)
  have hnp := hS.np
  refine s_loopK (ι := {z : SuS // z.q ≤ g.Prods.length ∧ SumOf g.Nons.length w.length f z.l fun a j => sumW g w V a f j z.q}) [27, 26, 5, 3, 4, 0] rfl ⟨⟨0, [], [], 0⟩, Nat.zero_le _, SumOf.nil⟩ (fun z => [(28, .int .i64 z.1.q)])
    (fun z => [mapS enc3 bs z.1.l z.1.st z.1.ck, blk bc 73 [.slice A0 g.Terms.length c0, .slice A1 g.Levels.length c1, .slice A2 g.Pats.length c2, .slice A3 g.Nons.length c3, .slice (some ⟨b9, o9, none⟩) g.Prods.length c4, .slice Ak w.length ck, .map (some bw)], mapS enc3 bw lv sv cv]) (fun z => g.Prods.length - z.1.q) ?_ (Ent.refl _) ?_
  · repeat' (first | exact Sub.nil _ | refine Sub.cons rfl ?_)
  rintro ⟨⟨q, l, sl, cl⟩, hq, hSum⟩
  simp only at hq hSum ⊢
  repeat' (first | refine e_nil ?_ | ((refine e_op ?_); (refine o_n (peval_sound rfl) rfl ?_)) | refine s_seq ?_ | refine s_region ?_)
  by_cases hqp : q < g.Prods.length
  · rw [decide_eq_true (by omega : (q : Int) < (g.Prods.length : Int))]
    have hwq : IntKind.i64.wrap ((q : Int) + 1) = ((q + 1 : Nat) : Int) := by rw [wrap_i64] <;> omega
    have hlq := lhs_at hqp
    have hrq := rhs_at hqp
    have hll := hS.ll q hqp
    obtain ⟨A, hA⟩ : ∃ A : Nat, lhs g q = (A : Int) := ⟨(lhs g q).toNat, by omega⟩
    have hAN : A < g.Nons.length := by omega
    obtain ⟨b6, o6, es6, ee6, hb6, he6, hc6⟩ := hG.prods.2.2 q hqp
    cases ee6
    obtain ⟨Ar6, cr6, rfl, hl6, hlN6, hlK6, hri6⟩ := kPrd_open he6
    repeat' (first | refine s_seq ?_ | refine s_region ?_ | refine s_block ?_ | refine s_skip ?_ | refine s_true rfl ?_)
    refine e_op (o_n (n_index rfl rfl rfl rfl q rfl hqp) rfl ?_)
    refine e_op (o_n (n_load_ro rfl rfl hb6 (loads_agg rfl rfl hc6)) rfl ?_)
    repeat' (first | refine e_nil ?_ | ((refine e_op ?_); (first | refine o_n (peval_sound rfl) rfl ?_ | refine o_n (nl rfl rfl tc rfl) rfl ?_ | refine o_storeC rfl rfl rfl rfl tc uc rfl rfl rfl ?_ | refine o_alloc rfl rfl (fun _ => ?_))) | refine s_seq ?_ | refine s_region ?_)
    rename_i b7
    rw [← hrq] at hri6 ⊢
    refine e_op (o_call (crow_w bc bw A0 c0 (.slice A1 g.Levels.length c1) (.slice A2 g.Pats.length c2) (.slice A3 g.Nons.length c3) (.slice (some ⟨b9, o9, none⟩) g.Prods.length c4) g Ak ck w lv sv cv V hV hV2 Ar6 cr6 (rhs g q) f (by omega) hw hS.tt (fun s hs => by have := hS.rs q hqp s hs; have := hS.tt; have := hS.nn; omega)) rfl (.cons (.s (.s .z)) (.cons (.s (.s .z)) .nil)) (Can.and (Can.ro hK) (Can.ro (sl_mk hri6))) rfl ?_)
    rintro v V' ⟨b8, rfl, rfl⟩
    simp only [List.cons_append, List.nil_append]
    repeat' (first | refine e_nil ?_ | ((refine e_op ?_); (refine o_n (peval_sound rfl) rfl ?_)) | refine s_block ?_)
    have hln := hlq.symm.trans hA
    rw [hln]
    have hw1 : ∀ t : Nat, t ≤ w.length → IntKind.i64.wrap ((t : Int) + 1) = ((t + 1 : Nat) : Int) := fun t ht => by rw [wrap_i64] <;> omega
    refine s_weak (fr' := [(38, .int .i64 0), (37, .int .i64 (w.length + 1 : Nat)), (36, .slice (some ⟨b8, 0, none⟩) (w.length + 1) (w.length + 1)), (7, ptrN b7), (28, .int .i64 q), (27, .int .i64 g.Prods.length), (26, .slice (some ⟨b9, o9, none⟩) g.Prods.length c4), (5, .map (some bs)), (3, .bool fr), (4, .int .i64 f), (0, ptrN bc)])
      (V := [mapS enc3 bs l sl cl, osl 3 1 (.slice (some ⟨b8, 0, none⟩) (w.length + 1) (w.length + 1)) (w.length + 1) (nums w.length (rowOf g w V (rhs g q) f)), blk bc 73 [.slice A0 g.Terms.length c0, .slice A1 g.Levels.length c1, .slice A2 g.Pats.length c2, .slice A3 g.Nons.length c3, .slice (some ⟨b9, o9, none⟩) g.Prods.length c4, .slice Ak w.length ck, .map (some bw)], mapS enc3 bw lv sv cv, blk b7 44 [.int .i64 A, .slice Ar6 (rhs g q).length cr6, .int .i64 g.Prods[q].L.N, .int .i64 g.Prods[q].L.Kind]]) ?_ (Ent.tak (.s (.s (.s (.s .z)))) (Ent.refl _)) ?_
    · repeat' (first | exact Sub.nil _ | refine Sub.cons rfl ?_)
    refine s_loopK (ι := {z : SuS // z.q ≤ w.length + 1 ∧ SumOf g.Nons.length w.length f z.l (sumF g w V f q z.q)}) [37, 36, 7, 28, 27, 26, 5, 3, 4, 0] rfl ⟨⟨0, l, sl, cl⟩, Nat.zero_le _, by rw [sumF_zero]; exact hSum⟩ (fun z => [(38, .int .i64 z.1.q)])
      (fun z => [mapS enc3 bs z.1.l z.1.st z.1.ck, osl 3 1 (.slice (some ⟨b8, 0, none⟩) (w.length + 1) (w.length + 1)) (w.length + 1) (nums w.length (rowOf g w V (rhs g q) f)), blk bc 73 [.slice A0 g.Terms.length c0, .slice A1 g.Levels.length c1, .slice A2 g.Pats.length c2, .slice A3 g.Nons.length c3, .slice (some ⟨b9, o9, none⟩) g.Prods.length c4, .slice Ak w.length ck, .map (some bw)], mapS enc3 bw lv sv cv, blk b7 44 [.int .i64 A, .slice Ar6 (rhs g q).length cr6, .int .i64 g.Prods[q].L.N, .int .i64 g.Prods[q].L.Kind]]) (fun z => w.length + 1 - z.1.q) ?_ (Ent.refl _) ?_
    · repeat' (first | exact Sub.nil _ | refine Sub.cons rfl ?_)
    rintro ⟨⟨t, l, sl, cl⟩, ht, hSu⟩
    simp only at ht hSu ⊢
    repeat' (first | refine e_nil ?_ | ((refine e_op ?_); (refine o_n (peval_sound rfl) rfl ?_)) | refine s_seq ?_ | refine s_region ?_)
    by_cases htl : t < w.length + 1
    · rw [decide_eq_true (by omega : (t : Int) < ((w.length + 1 : Nat) : Int))]
      repeat' (first | ((refine e_op ?_); (refine o_n (peval_sound rfl) rfl ?_)) | refine s_seq ?_ | refine s_region ?_ | refine s_block ?_ | refine s_skip ?_ | refine s_true rfl ?_)
      refine e_op (o_n (n_index rfl rfl rfl rfl t rfl htl) rfl ?_)
      refine e_op (o_n (n_load_osl rfl rfl (.s .z) (nums_load (j := t) (Nat.le_of_lt_succ htl) (by show 0 + t * 1 = t; omega))) rfl ?_)
      repeat' (first | refine e_nil ?_ | ((refine e_op ?_); (refine o_n (peval_sound rfl) rfl ?_)))
      have hro : rowOf g w V (rhs g q) f t ≤ 2 := row_two g w V _ _ (fun j => by unfold unitW; split <;> omega) t
      have hsf := sumF_le (g := g) (w := w) (V := V) f q t A t
      have hwv : IntKind.i64.wrap ((sumF g w V f q t A t : Int) + (rowOf g w V (rhs g q) f t : Int)) = ((sumF g w V f q t A t + rowOf g w V (rhs g q) f t : Nat) : Int) := by rw [wrap_i64] <;> omega
      have hget := hSu.get (a := A) (j := t) (by omega)
      refine s_P Try.mixed (by decide +kernel) ?_
      refine p_bar 11 [mapV enc3 bs (A, f, t) (.int .i64 0) (iv (sumF g w V f q t A t)), osl 3 1 (.slice (some ⟨b8, 0, none⟩) (w.length + 1) (w.length + 1)) (w.length + 1) (nums w.length (rowOf g w V (rhs g q) f)), blk bc 73 [.slice A0 g.Terms.length c0, .slice A1 g.Levels.length c1, .slice A2 g.Pats.length c2, .slice A3 g.Nons.length c3, .slice (some ⟨b9, o9, none⟩) g.Prods.length c4, .slice Ak w.length ck, .map (some bw)], mapS enc3 bw lv sv cv, blk b7 44 [.int .i64 A, .slice Ar6 (rhs g q).length cr6, .int .i64 g.Prods[q].L.N, .int .i64 g.Prods[q].L.Kind]] ?_
      refine q_n 0 rfl (peval_sound rfl) (by decide +kernel) (by decide +kernel) (ent_mapV hget) rfl ?_
      refine q_n 1 rfl (peval_sound rfl) (by decide +kernel) (by decide +kernel) (ent_mapV hget) rfl ?_
      refine q_n 2 rfl (nl rfl rfl tc rfl) (by decide +kernel) (by decide +kernel) (ent_mapV hget) rfl ?_
      refine q_n 3 rfl (peval_sound rfl) (by decide +kernel) (by decide +kernel) (ent_mapV hget) rfl ?_
      refine q_n 4 rfl (peval_sound rfl) (by decide +kernel) (by decide +kernel) (ent_mapV hget) rfl ?_
      refine q_n 5 rfl (peval_sound rfl) (by decide +kernel) (by decide +kernel) (ent_mapV hget) rfl ?_
      refine q_n 6 rfl (n_lookupV (k := (A, f, t)) rfl mkey75 (fun w => by kernel_rfl) rfl rfl rfl .z) (by decide +kernel) (by decide +kernel) (ent_mapV hget) rfl ?_
      refine q_n 7 rfl (peval_sound rfl) (by decide +kernel) (by decide +kernel) (ent_mapV hget) rfl ?_
      refine q_n 8 rfl (peval_sound rfl) (by decide +kernel) (by decide +kernel) (ent_mapV hget) rfl ?_
      rw [hwv]
      by_cases h0 : lookK l (A, f, t) = none
      · have hz : (lookK (l ++ [((A, f, t), .int .i64 0)]) (A, f, t)).getD (.int .i64 0) = iv (sumF g w V f q t A t) := by
          rw [look_app h0, if_pos rfl, hSu.out A t (by omega) h0]; rfl
        refine q_1 9 (by decide +kernel) rfl rfl rfl (o_mapEntry (z := .int .i64 0) (k := (A, f, t)) rfl mkey75 (fun w => by kernel_rfl) rfl rfl rfl h0 rfl .z ⟨ent_mapV hz, ?_⟩)
        refine q_n 10 rfl (peval_sound rfl) (by decide +kernel) (by decide +kernel) (ent_mapV hz) rfl ?_
        refine q_z 11 (by decide +kernel) rfl rfl (o_entryStore rfl rfl rfl rfl .z ?_)
        refine p_done (by decide +kernel) ?_
        repeat' (first | refine e_nil ?_ | ((refine e_op ?_); (refine o_n (peval_sound rfl) rfl ?_)) | refine s_region ?_ | refine s_end ?_)
        rw [hw1 t (by omega)]
        refine s_back ⟨⟨⟨t + 1, l ++ [((A, f, t), iv (sumF g w V f q t A t + rowOf g w V (rhs g q) f t))], sl ++ [cl], cl + 1⟩, htl, (hSu.new hAN (by omega) h0).ext fun a j _ => sumF_step hA a j⟩, by simp only; omega, ?_, Ent.refl _⟩
        repeat' (first | exact Sub.nil _ | refine Sub.cons rfl ?_)
      · obtain ⟨i, v, hfk⟩ : ∃ i v, findK (A, f, t) l 0 = some (i, v) := by
          cases hfk : findK (A, f, t) l 0 with
          | none => exact absurd (findK_lookN hfk) h0
          | some p => exact ⟨p.1, p.2, rfl⟩
        have hli := (findK_some hfk).2
        rw [Nat.sub_zero] at hli
        refine q_1 9 (by decide +kernel) rfl rfl rfl (o_mapEntryOld (k := (A, f, t)) rfl mkey75 rfl rfl rfl hfk hli rfl .z .z ⟨ent_mapV hget, ?_⟩)
        refine q_n 10 rfl (peval_sound rfl) (by decide +kernel) (by decide +kernel) (ent_mapV hget) rfl ?_
        refine q_z 11 (by decide +kernel) rfl rfl (o_entryStoreAt rfl rfl rfl hli rfl .z ?_)
        refine p_done (by decide +kernel) ?_
        repeat' (first | refine e_nil ?_ | ((refine e_op ?_); (refine o_n (peval_sound rfl) rfl ?_)) | refine s_region ?_ | refine s_end ?_)
        rw [hw1 t (by omega)]
        refine s_back ⟨⟨⟨t + 1, l.set i ((A, f, t), iv (sumF g w V f q t A t + rowOf g w V (rhs g q) f t)), sl, cl⟩, htl, (hSu.old hfk).ext fun a j _ => sumF_step hA a j⟩, by simp only; omega, ?_, Ent.refl _⟩
        repeat' (first | exact Sub.nil _ | refine Sub.cons rfl ?_)
    · rw [decide_eq_false (by omega : ¬ (t : Int) < ((w.length + 1 : Nat) : Int))]
      obtain rfl : t = w.length + 1 := by omega
      repeat' (first | refine e_nil ?_ | ((refine e_op ?_); (refine o_n (peval_sound rfl) rfl ?_)) | refine s_region ?_ | refine s_end ?_ | refine s_exit ?_ | refine s_false rfl ?_ | refine x_hit ?_ | refine x_code ?_ | refine x_back ?_)
      rw [hwq]
      refine s_back ⟨⟨⟨q + 1, l, sl, cl⟩, hqp, hSu.ext fun a j hj => sumF_all a j hj⟩, by simp only; omega, ?_, ?_⟩
      · repeat' (first | exact Sub.nil _ | refine Sub.cons rfl ?_)
      · exact Ent.cons (Ent.wk (Ent.cons (Ent.cons (Ent.wk (Ent.refl _)))))
  · rw [decide_eq_false (by omega : ¬ (q : Int) < (g.Prods.length : Int))]
    obtain rfl : q = g.Prods.length := by omega
    repeat' (first | ((refine e_op ?_); (refine o_n (peval_sound rfl) rfl ?_)) | refine s_seq ?_ | refine s_region ?_ | refine s_exit ?_ | refine s_false rfl ?_ | refine x_hit ?_ | refine x_code ?_ | refine x_back ?_)
    refine e_op (o_range (enc := enc3) (l := l) (st := sl) (ck := cl) rfl rfl .z rfl (fun ri => ?_))
    repeat' (first | refine e_nil ?_ | refine s_block ?_)
    have hfn : f ≤ w.length := by omega
    refine s_loopK (ι := {z : RnS // z.ix.Nodup ∧ (∀ i ∈ z.ix, i < l.length) ∧ GrI g w f V z.W l z.ix ∧ Tells z.lw z.W ∧ Two z.W ∧ Fre g.Nons.length w.length W z.W z.fr}) [57, 4, 0] rfl ⟨⟨[], fr, V, lv, sv, cv⟩, List.nodup_nil, (fun i h => nomatch h), GrI.begin, hV, hV2, hF⟩ (fun z => [(3, .bool z.1.fr)])
      (fun z => [iterA ri bs sl cl z.1.ix, mapS enc3 bs l sl cl, blk bc 73 [.slice A0 g.Terms.length c0, .slice A1 g.Levels.length c1, .slice A2 g.Pats.length c2, .slice A3 g.Nons.length c3, .slice (some ⟨b9, o9, none⟩) g.Prods.length c4, .slice Ak w.length ck, .map (some bw)], mapS enc3 bw z.1.lw z.1.st z.1.cm]) (fun z => l.length - z.1.ix.length) ?_ (Ent.refl _) ?_
    · repeat' (first | exact Sub.nil _ | refine Sub.cons rfl ?_)
    rintro ⟨⟨ix, fr2, W2, lw2, st2, cm2⟩, hnd, hix, hGI, hT2, h2W, hFr2⟩
    simp only at hnd hix hGI hT2 h2W hFr2 ⊢
    repeat' (first | refine s_seq ?_ | refine s_region ?_)
    refine e_op (o_next (enc := enc3) (l := l) (st := sl) (ck := cl) (F := fun ix' => [iterA ri bs sl cl ix', mapS enc3 bs l sl cl, blk bc 73 [.slice A0 g.Terms.length c0, .slice A1 g.Levels.length c1, .slice A2 g.Pats.length c2, .slice A3 g.Nons.length c3, .slice (some ⟨b9, o9, none⟩) g.Prods.length c4, .slice Ak w.length ck, .map (some bw)], mapS enc3 bw lw2 st2 cm2]) rfl (.s .z) (fun ix' => .z) hix rfl (fun hall => ?_) (fun i hi hni => ?_))
    · have hfin := hGI.all hSum rfl hall
      repeat' (first | refine e_nil ?_ | ((refine e_op ?_); (refine o_n (peval_sound rfl) rfl ?_)) | refine s_seq ?_ | refine s_region ?_ | refine s_end ?_ | refine s_exit ?_ | refine s_false rfl ?_ | refine x_hit ?_ | refine x_code ?_ | refine x_back ?_)
      rw [show IntKind.i64.wrap ((f : Int) - 1) = (f : Int) - 1 by rw [wrap_i64] <;> omega]
      refine s_back ⟨⟨⟨f, fr2, W2, lw2, st2, cm2⟩, Nat.le_succ_of_le hfn, hT2, h2W, by rw [← hVW, hfin]; rfl, hFr2⟩, by simp only; omega, ?_, Ent.wk (Ent.wk (Ent.refl _))⟩
      repeat' (first | exact Sub.nil _ | refine Sub.cons rfl ?_)
    · have hv := hSum.val i hi
      have hput := hGI.put hSum rfl hi
      have hskip := hGI.skip hSum rfl hi
      have hnd2 : (ix ++ [i]).Nodup := by
        rw [List.nodup_append]
        exact ⟨hnd, by simp, fun a ha b hb e => by rw [List.mem_singleton] at hb; subst hb; subst e; exact hni ha⟩
      have hix2 : ∀ q ∈ ix ++ [i], q < l.length := fun q hq => by
        rcases List.mem_append.1 hq with h | h
        · exact hix q h
        · rw [List.mem_singleton] at h; subst h; exact hi
      have hrk : l.length - (ix ++ [i]).length < l.length - ix.length := by
        have := nodup_le hnd2 hix2
        rw [List.length_append, List.length_singleton] at this ⊢
        omega
      repeat' (first | refine e_nil ?_ | ((refine e_op ?_); (refine o_n (peval_sound rfl) rfl ?_)) | refine s_seq ?_ | refine s_region ?_ | refine s_block ?_ | refine s_skip ?_ | refine s_true rfl ?_)
      refine e_op (o_n (n_entry (enc := enc3) (l := l) (i := i) rfl (.s .z) .z hi) rfl ?_)
      obtain ⟨p, hp⟩ : ∃ p, l[i] = p := ⟨_, rfl⟩
      rw [hp] at hv hput hskip ⊢
      obtain ⟨⟨a, f', j⟩, vv⟩ := p
      obtain ⟨v1, v2, v3, v4⟩ := hv
      simp only at v1 v2 v3 v4 hput hskip
      subst v2 v4
      obtain ⟨S, hSe⟩ : ∃ S, sumW g w V a f' j g.Prods.length = S := ⟨_, rfl⟩
      have hS256 : S ≤ 256 := by have := sum_le2 (g := g) (w := w) (V := V) a f' j g.Prods.length; omega
      rw [hSe] at hput hskip ⊢
      unfold enc3
      repeat' (first | refine e_nil ?_ | ((refine e_op ?_); (first | refine o_n (peval_sound rfl) rfl ?_ | refine o_storeC rfl rfl rfl rfl tc uc rfl rfl rfl ?_ | refine o_alloc rfl rfl (fun _ => ?_))) | refine s_seq ?_ | refine s_region ?_)
      rename_i b10
      have hmin : (if (2 : Int) < (S : Int) then (2 : Int) else (S : Int)) = ((cap S : Nat) : Int) := by unfold cap; split <;> omega
      rw [hmin]
      have hc2 : cap S ≤ 2 := by unfold cap; omega
      refine s_weak (fr' := [(11, iv (cap S)), (10, ptrN b10), (3, .bool fr2), (57, ptrN ri), (4, .int .i64 f'), (0, ptrN bc)]) (V := [mapS enc3 bw lw2 st2 cm2, iterA ri bs sl cl (ix ++ [i]), mapS enc3 bs l sl cl, blk bc 73 [.slice A0 g.Terms.length c0, .slice A1 g.Levels.length c1, .slice A2 g.Pats.length c2, .slice A3 g.Nons.length c3, .slice (some ⟨b9, o9, none⟩) g.Prods.length c4, .slice Ak w.length ck, .map (some bw)], blk b10 75 [.int .i64 a, .int .i64 f', .int .i64 j]]) ?_ (Ent.tak (.s (.s (.s (.s .z)))) (Ent.tak (.s .z) (Ent.tak (.s .z) (Ent.tak (.s .z) (Ent.refl _))))) ?_
      · repeat' (first | exact Sub.nil _ | refine Sub.cons rfl ?_)
      refine s_drawU [] Try.mixed (by decide +kernel) ?_
      repeat' (((first | refine l_n (peval_sound rfl) rfl ?_ rfl ?_ | refine l_n (nl rfl rfl tc rfl) rfl ?_ rfl ?_); · (exact Ent.refl _)))
      refine l_n (NEV.weak ent_mapS (n_lookup (z := .int .i64 0) (k := (a, f', j)) rfl mkey75 (fun w => by kernel_rfl) rfl rfl rfl .z)) rfl (Ent.refl _) rfl ?_
      rw [hT2 a f' j]
      repeat' (first | refine l_nil ?_ | ((refine l_n (peval_sound rfl) rfl ?_ rfl ?_); · (exact Ent.refl _)))
      by_cases hlt : W2 a f' j < cap S
      · have hput := hput hlt
        rw [decide_eq_true (by omega : ((cap S : Nat) : Int) > (W2 a f' j : Int))]
        repeat' (refine s_true rfl ?_)
        by_cases h0 : lookK lw2 (a, f', j) = none
        · skip
          refine s_P Try.mixed (by decide +kernel) ?_
          refine p_bar 8 [iterA ri bs sl cl (ix ++ [i]), mapS enc3 bs l sl cl, blk bc 73 [.slice A0 g.Terms.length c0, .slice A1 g.Levels.length c1, .slice A2 g.Pats.length c2, .slice A3 g.Nons.length c3, .slice (some ⟨b9, o9, none⟩) g.Prods.length c4, .slice Ak w.length ck, .map (some bw)], blk b10 75 [.int .i64 a, .int .i64 f', .int .i64 j]] ?_
          refine q_n 0 rfl (peval_sound rfl) (by decide +kernel) (by decide +kernel) (Ent.wk (Ent.refl _)) rfl ?_
          refine q_n 1 rfl (peval_sound rfl) (by decide +kernel) (by decide +kernel) (Ent.wk (Ent.refl _)) rfl ?_
          refine q_n 2 rfl (peval_sound rfl) (by decide +kernel) (by decide +kernel) (Ent.wk (Ent.refl _)) rfl ?_
          refine q_n 3 rfl (nl rfl rfl tc rfl) (by decide +kernel) (by decide +kernel) (Ent.wk (Ent.refl _)) rfl ?_
          refine q_n 4 rfl (nl rfl rfl tc rfl) (by decide +kernel) (by decide +kernel) (Ent.wk (Ent.refl _)) rfl ?_
          refine q_n 5 rfl (peval_sound rfl) (by decide +kernel) (by decide +kernel) (Ent.wk (Ent.refl _)) rfl ?_
          refine q_1 6 (by decide +kernel) rfl rfl rfl (o_mapEntry (z := .int .i64 0) (k := (a, f', j)) rfl mkey75 (fun w => by kernel_rfl) rfl rfl rfl h0 rfl .z ⟨Ent.wk (Ent.refl _), ?_⟩)
          refine q_n 7 rfl (peval_sound rfl) (by decide +kernel) (by decide +kernel) (Ent.wk (Ent.refl _)) rfl ?_
          refine q_z 8 (by decide +kernel) rfl rfl (o_entryStore rfl rfl rfl rfl .z ?_)
          refine p_1 9 (by decide +kernel) rfl rfl (o_n (peval_sound rfl) rfl ?_)
          refine p_done (by decide +kernel) ?_
          repeat' (refine s_end ?_)
          refine s_back ⟨⟨⟨ix ++ [i], true, setW W2 (a, f', j) (cap S), lw2 ++ [((a, f', j), iv (cap S))], st2 ++ [cm2], cm2 + 1⟩, hnd2, hix2, hput, hT2.new h0, h2W.set _ hc2, hFr2.set h2W hc2 v1 hfn v3 hlt⟩, hrk, ?_, ?_⟩
          · repeat' (first | exact Sub.nil _ | refine Sub.cons rfl ?_)
          · exact Ent.tak (.s .z) (Ent.tak (.s .z) (Ent.tak (.s .z) (Ent.tak .z (Ent.nil _))))
        · obtain ⟨i2, vo, hfk⟩ : ∃ i v, findK (a, f', j) lw2 0 = some (i, v) := by
            cases hfk : findK (a, f', j) lw2 0 with
            | none => exact absurd (findK_lookN hfk) h0
            | some p => exact ⟨p.1, p.2, rfl⟩
          have hli := (findK_some hfk).2
          rw [Nat.sub_zero] at hli
          refine s_P Try.mixed (by decide +kernel) ?_
          refine p_bar 8 [iterA ri bs sl cl (ix ++ [i]), mapS enc3 bs l sl cl, blk bc 73 [.slice A0 g.Terms.length c0, .slice A1 g.Levels.length c1, .slice A2 g.Pats.length c2, .slice A3 g.Nons.length c3, .slice (some ⟨b9, o9, none⟩) g.Prods.length c4, .slice Ak w.length ck, .map (some bw)], blk b10 75 [.int .i64 a, .int .i64 f', .int .i64 j]] ?_
          refine q_n 0 rfl (peval_sound rfl) (by decide +kernel) (by decide +kernel) (Ent.wk (Ent.refl _)) rfl ?_
          refine q_n 1 rfl (peval_sound rfl) (by decide +kernel) (by decide +kernel) (Ent.wk (Ent.refl _)) rfl ?_
          refine q_n 2 rfl (peval_sound rfl) (by decide +kernel) (by decide +kernel) (Ent.wk (Ent.refl _)) rfl ?_
          refine q_n 3 rfl (nl rfl rfl tc rfl) (by decide +kernel) (by decide +kernel) (Ent.wk (Ent.refl _)) rfl ?_
          refine q_n 4 rfl (nl rfl rfl tc rfl) (by decide +kernel) (by decide +kernel) (Ent.wk (Ent.refl _)) rfl ?_
          refine q_n 5 rfl (peval_sound rfl) (by decide +kernel) (by decide +kernel) (Ent.wk (Ent.refl _)) rfl ?_
          refine q_1 6 (by decide +kernel) rfl rfl rfl (o_mapEntryOld (k := (a, f', j)) rfl mkey75 rfl rfl rfl hfk hli rfl .z .z ⟨Ent.wk (Ent.refl _), ?_⟩)
          refine q_n 7 rfl (peval_sound rfl) (by decide +kernel) (by decide +kernel) (Ent.wk (Ent.refl _)) rfl ?_
          refine q_z 8 (by decide +kernel) rfl rfl (o_entryStoreAt rfl rfl rfl hli rfl .z ?_)
          refine p_1 9 (by decide +kernel) rfl rfl (o_n (peval_sound rfl) rfl ?_)
          refine p_done (by decide +kernel) ?_
          repeat' (refine s_end ?_)
          refine s_back ⟨⟨⟨ix ++ [i], true, setW W2 (a, f', j) (cap S), lw2.set i2 ((a, f', j), iv (cap S)), st2, cm2⟩, hnd2, hix2, hput, hT2.old hfk, h2W.set _ hc2, hFr2.set h2W hc2 v1 hfn v3 hlt⟩, hrk, ?_, ?_⟩
          · repeat' (first | exact Sub.nil _ | refine Sub.cons rfl ?_)
          · exact Ent.tak (.s .z) (Ent.tak (.s .z) (Ent.tak (.s .z) (Ent.tak .z (Ent.nil _))))
      · have hskip := hskip hlt
        rw [decide_eq_false (by omega : ¬ ((cap S : Nat) : Int) > (W2 a f' j : Int))]
        repeat' (first | refine s_end ?_ | refine s_skip ?_ | refine s_false rfl ?_)
        refine s_back ⟨⟨⟨ix ++ [i], fr2, W2, lw2, st2, cm2⟩, hnd2, hix2, hskip, hT2, h2W, hFr2⟩, hrk, ?_, ?_⟩
        · repeat' (first | exact Sub.nil _ | refine Sub.cons rfl ?_)
        · exact Ent.tak (.s .z) (Ent.tak (.s .z) (Ent.tak (.s .z) (Ent.tak .z (Ent.nil _))))

end Go.Proofs.Ytjeimmekhfhepaa

namespace Go.Proofs.Ytjeimmekhfhepaa
set_option linter.all false
open Go.Proofs.Ytjeimmekhfhepaa.E

structure CoS where
  n : Nat
  lw : List (K3 × Value)
  st : List Nat
  cm : Nat
theorem chk_parts {g : Gram} {w : List Int} (he : chkE g w = 0) : checkE g = 0 ∧ w.length ≤ 60 ∧ w.any (kBad g) = false := by
  unfold chkE at he
  split at he
  · rename_i h; exact absurd he h
  · rename_i h
    split at he
    · cases he
    · split at he
      · cases he
      · rename_i h2 h3
        exact ⟨by simpa using h, by omega, by simpa using h3⟩
def CouQ (g : Gram) (w : List Int) (n : Nat) : Prop := (chkE g w ≠ 0 → n = 0) ∧ (chkE g w = 0 → ∃ W, DoneW g w W ∧ n = W 0 0 w.length)

attribute [local irreducible] EVX EVO EVL EV1 NEV
attribute [local irreducible] own osl exA rdA rdL
attribute [local irreducible] bldA mapA bun mapS nums iterA mapV
set_option maxRecDepth 10000
set_option maxHeartbeats 4000000

theorem counts_w (cs : List Value) (g : Gram) (Ak : Option Addr) (ck : Nat) (w : List Int) :
    Trip Try.prog 12 [.agg cs.toArray, .slice Ak w.length ck] ((kGram.rd cs g).and ((kslice 8 kint).rd [.slice Ak w.length ck] w)) []
      (fun v V => ∃ n : Nat, v = .tuple #[.int .i64 n, .int .i64 (chkE g w)] ∧ CouQ g w n ∧ V = []) := by
  refine trip Try.tabOk Try.func12 rfl rfl rfl rfl ?_
  rintro wd SM ⟨hR, hK⟩
  obtain ⟨A0, A1, A2, A3, A4, c0, c1, c2, c3, c4, rfl, hG⟩ := kGram_open hR
  repeat' (first | refine e_nil ?_ | ((refine e_op ?_); (first | refine o_n (peval_sound rfl) rfl ?_ | refine o_n (nl rfl rfl tc rfl) rfl ?_ | refine o_box rfl rfl (fun _ => ?_))) | refine s_seq ?_ | refine s_region ?_)
  rename_i b2
  refine e_op (o_call (check24_w _ g Ak ck w) rfl .nil (Can.and (Can.ro hR) (Can.ro hK)) rfl ?_)
  rintro v V ⟨rfl, rfl⟩
  simp only [List.nil_append]
  repeat' (first | refine e_nil ?_ | ((refine e_op ?_); (refine o_n (peval_sound rfl) rfl ?_)) | refine s_seq ?_ | refine s_region ?_)
  by_cases he : chkE g w = 0
  · rw [show (chkE g w != 0) = false by simp [he]]
    obtain ⟨hce, hlw, _⟩ := chk_parts he
    have hS := gSm hce
    repeat' (first | ((refine e_op ?_); (first | refine o_n (peval_sound rfl) rfl ?_ | refine o_n (nl rfl rfl tc rfl) rfl ?_)) | refine s_seq ?_ | refine s_region ?_ | refine s_skip ?_ | refine s_false rfl ?_)
    refine e_op (o_newMapS enc3 rfl (fun bw => ?_))
    repeat' (first | refine e_nil ?_ | ((refine e_op ?_); (first | refine o_n (peval_sound rfl) rfl ?_ | refine o_box rfl rfl (fun _ => ?_))) | refine s_seq ?_ | refine s_block ?_)
    rename_i bc
    refine s_weak (fr' := [(7, ptrN bc), (1, .slice Ak w.length ck)]) (V := [blk bc 73 [.slice A0 g.Terms.length c0, .slice A1 g.Levels.length c1, .slice A2 g.Pats.length c2, .slice A3 g.Nons.length c3, .slice A4 g.Prods.length c4, .slice Ak w.length ck, .map (some bw)], mapS enc3 bw [] [] 0]) ?_ ?_ ?_
    · repeat' (first | exact Sub.nil _ | refine Sub.cons rfl ?_)
    · exact Ent.tak .z (Ent.tak .z (Ent.nil _))
    refine s_loopK (ι := {z : CoS // Tells z.lw (itW g w z.n)}) [7, 1] rfl ⟨⟨0, [], [], 0⟩, fun _ _ _ => rfl⟩ (fun _ => [])
      (fun z => [blk bc 73 [.slice A0 g.Terms.length c0, .slice A1 g.Levels.length c1, .slice A2 g.Pats.length c2, .slice A3 g.Nons.length c3, .slice A4 g.Prods.length c4, .slice Ak w.length ck, .map (some bw)], mapS enc3 bw z.1.lw z.1.st z.1.cm]) (fun z => misW g.Nons.length w.length (itW g w z.1.n)) ?_ (Ent.refl _) ?_
    · repeat' (first | exact Sub.nil _ | refine Sub.cons rfl ?_)
    rintro ⟨⟨n, lw, st, cm⟩, hT⟩
    simp only at hT ⊢
    repeat' (first | ((refine e_op ?_); (refine o_n (peval_sound rfl) rfl ?_)) | refine s_seq ?_ | refine s_region ?_)
    refine e_op (o_call (cgrow_w bc bw A0 A1 A2 A3 A4 c0 c1 c2 c3 c4 g Ak ck w lw st cm (itW g w n) hT (it_two n) hlw hS) rfl (.cons .z (.cons .z .nil)) (Can.and (Can.ro hR) (Can.ro hK)) rfl ?_)
    rintro v V ⟨fr, lw2, st2, cm2, rfl, hT2, hF, rfl⟩
    simp only [List.cons_append, List.nil_append]
    cases fr with
    | true =>
      repeat' (first | refine e_nil ?_ | refine s_block ?_ | refine s_end ?_ | refine s_skip ?_ | refine s_true rfl ?_)
      refine s_back ⟨⟨⟨n + 1, lw2, st2, cm2⟩, hT2⟩, hF.yes rfl, ?_, Ent.refl _⟩
      repeat' (first | exact Sub.nil _ | refine Sub.cons rfl ?_)
    | false =>
      have hfix := hF.no rfl
      rw [hfix] at hT2
      repeat' (first | refine e_nil ?_ | ((refine e_op ?_); (first | refine o_n (peval_sound rfl) rfl ?_ | refine o_n (nl rfl rfl tc rfl) rfl ?_)) | refine s_seq ?_ | refine s_region ?_ | refine s_exit ?_ | refine s_false rfl ?_ | refine x_hit ?_ | refine x_code ?_ | refine x_back ?_)
      refine e_op (o_n (NEV.weak (Ent.wk ent_mapS) (n_lookup (z := .int .i64 0) (k := (0, 0, w.length)) rfl mkey75 (fun w => by kernel_rfl) rfl rfl rfl .z)) rfl ?_)
      rw [hT2 0 0 w.length]
      repeat' (first | refine e_nil ?_ | ((refine e_op ?_); (refine o_n (peval_sound rfl) rfl ?_)))
      refine s_ret ⟨_, _, res2 rfl rfl rfl, ⟨_, by rw [he], ⟨fun h => absurd he h, fun _ => ⟨_, ⟨⟨n, rfl⟩, hfix⟩, rfl⟩⟩, rfl⟩, Ent.nil _⟩
  · rw [show (chkE g w != 0) = true by simp [he]]
    repeat' (first | refine e_nil ?_ | ((refine e_op ?_); (refine o_n (peval_sound rfl) rfl ?_)) | refine s_seq ?_ | refine s_region ?_ | refine s_true rfl ?_)
    exact s_ret ⟨_, _, res2 rfl rfl rfl, ⟨0, rfl, ⟨fun _ => rfl, fun h => absurd h he⟩, rfl⟩, Ent.nil _⟩

end Go.Proofs.Ytjeimmekhfhepaa

namespace Go.Proofs.Ytjeimmekhfhepaa
set_option linter.all false
open Go.Proofs.Ytjeimmekhfhepaa.E

/-- As many items as there can be. -/
theorem row_len {g : Gram} {k : Nat} (hp : g.Prods.length ≤ 128) (hr : ∀ p, p < g.Prods.length → (rhs g p).length ≤ 12) (hk : k ≤ 60) {l : List EI} (hn : l.Nodup) (ho : ∀ x ∈ l, EOk g k x) : l.length ≤ 101504 := by
  have h1 : (l.map fun x => x.p * 793 + x.d * 61 + x.f).Nodup := by
    rw [List.nodup_iff_pairwise_ne, List.pairwise_map]
    refine List.Pairwise.imp_of_mem ?_ (List.nodup_iff_pairwise_ne.1 hn)
    intro x y hx hy hne e
    have ox := ho x hx
    have oy := ho y hy
    have := hr _ ox.p
    have := hr _ oy.p
    have := ox.d
    have := oy.d
    have := ox.f
    have := oy.f
    apply hne
    obtain ⟨xp, xd, xf⟩ := x
    obtain ⟨yp, yd, yf⟩ := y
    simp only at *
    have e1 : xp = yp := by omega
    subst e1
    have e2 : xd = yd := by omega
    subst e2
    have e3 : xf = yf := by omega
    subst e3; rfl
  have h2 := nodup_le (n := 101504) h1 (fun i hi => by
    obtain ⟨x, hx, rfl⟩ := List.mem_map.1 hi
    have ox := ho x hx
    have := hr _ ox.p
    have := ox.d
    have := ox.f
    have := ox.p
    omega)
  rwa [List.length_map] at h2

structure RwS where
  i : Nat
  hcs : AcL
  R : List (List EI)

attribute [local irreducible] EVX EVO EVL EV1 NEV
attribute [local irreducible] own osl exA rdA rdL
attribute [local irreducible] bldA mapA bun mapS nums iterA
set_option maxRecDepth 10000
set_option maxHeartbeats 4000000

theorem row_w (bc : Nat) (A0 A1 A2 A3 A4 : Option Addr) (c0 c1 c2 c3 c4 : Nat) (Ak : Option Addr) (ck : Nat) (hcs : AcL) (R : List (List EI)) (bs : List Nat) (g : Gram) (w : List Int) (H : ChN [.slice A0 g.Terms.length c0, .slice A1 g.Levels.length c1, .slice A2 g.Pats.length c2, .slice A3 g.Nons.length c3, .slice A4 g.Prods.length c4] hcs R bs) (k : Nat) (hk : k ≤ w.length) (hw : w.length ≤ 60) (hS : GSm g) (hI : RowI g w R k 0) :
    Trip Try.prog 35 [ptrN bc, .int .i64 k] ((kGram.rd [.slice A0 g.Terms.length c0, .slice A1 g.Levels.length c1, .slice A2 g.Pats.length c2, .slice A3 g.Nons.length c3, .slice A4 g.Prods.length c4] g).and ((kslice 8 kint).rd [.slice Ak w.length ck] w)) [blk bc 66 (chC [.slice A0 g.Terms.length c0, .slice A1 g.Levels.length c1, .slice A2 g.Pats.length c2, .slice A3 g.Nons.length c3, .slice A4 g.Prods.length c4] (.slice Ak w.length ck) hcs R bs), chR hcs R, chM bs R]
      (fun v V => ∃ hcs' R', v = .tuple #[] ∧ ChN [.slice A0 g.Terms.length c0, .slice A1 g.Levels.length c1, .slice A2 g.Pats.length c2, .slice A3 g.Nons.length c3, .slice A4 g.Prods.length c4] hcs' R' bs ∧ RowI g w R' (k + 1) 0 ∧ V = [blk bc 66 (chC [.slice A0 g.Terms.length c0, .slice A1 g.Levels.length c1, .slice A2 g.Pats.length c2, .slice A3 g.Nons.length c3, .slice A4 g.Prods.length c4] (.slice Ak w.length ck) hcs' R' bs), chR hcs' R', chM bs R']) := by
  refine trip Try.tabOk Try.func35 rfl rfl rfl rfl ?_
  rintro wd SM ⟨hG0, hK⟩
  refine s_scopeL (ι := {z : RwS // ChN [.slice A0 g.Terms.length c0, .slice A1 g.Levels.length c1, .slice A2 g.Pats.length c2, .slice A3 g.Nons.length c3, .slice A4 g.Prods.length c4] z.hcs z.R bs ∧ RowI g w z.R k z.i}) (fun z => [(4, .int .i64 z.1.i), (0, ptrN bc), (1, .int .i64 k)]) (fun z => [blk bc 66 (chC [.slice A0 g.Terms.length c0, .slice A1 g.Levels.length c1, .slice A2 g.Pats.length c2, .slice A3 g.Nons.length c3, .slice A4 g.Prods.length c4] (.slice Ak w.length ck) z.1.hcs z.1.R bs), chR z.1.hcs z.1.R, chM bs z.1.R]) (fun z => 1000000 - z.1.i) (l := 0) rfl rfl ?_ ?_
  · repeat' (first | refine e_nil ?_ | ((refine e_op ?_); (refine o_n (peval_sound rfl) rfl ?_)) | refine s_region ?_)
    refine s_back ⟨⟨⟨0, hcs, R⟩, H, hI⟩, ?_, Ent.refl _⟩
    repeat' (first | exact Sub.nil _ | refine Sub.cons rfl ?_)
  · rintro ⟨⟨i, hcs', R'⟩, hN', hI'⟩
    simp only at hN' hI' ⊢
    simp only [parts, List.cons_append, List.nil_append]
    repeat' (first | ((refine e_op ?_); (refine o_n (peval_sound rfl) rfl ?_)) | refine s_seq ?_ | refine s_region ?_)
    have hk61 : k < 61 := by omega
    have hkr : k < R'.length := by rw [hN'.r]; exact hk61
    have hhl : hcs'.length = R'.length := by rw [hN'.h, hN'.r]
    have hgd : rw_ R' k = R'[k] := by show R'.getD k [] = _; rw [List.getD_eq_getElem?_getD, List.getElem?_eq_getElem hkr]; rfl
    have hle := hI'.le
    have hB : R'[k].length ≤ 101504 := by
      rw [← hgd]
      exact row_len hS.np hS.rr (by omega) (hI'.nd k) (fun x hx => (hI'.so k x hx).ok hS.n0)
    rw [hgd] at hle
    refine e_op (o_n (n_indexA rfl rfl rfl rfl k rfl hk61) rfl ?_)
    refine e_op (o_n (nl rfl rfl tc (chC_row hN' hkr (by show 0 + 6 + k * 1 = 6 + k; omega))) rfl ?_)
    repeat' (first | refine e_nil ?_ | ((refine e_op ?_); (refine o_n (peval_sound rfl) rfl ?_)))
    by_cases hil : i < R'[k].length
    · rw [show ((i : Int) == (R'[k].length : Int)) = false by rw [beq_eq_false_iff_ne]; omega]
      repeat' (first | ((refine e_op ?_); (refine o_n (peval_sound rfl) rfl ?_)) | refine s_region ?_ | refine s_skip ?_ | refine s_false rfl ?_)
      refine e_op (o_n (n_indexA rfl rfl rfl rfl k rfl hk61) rfl ?_)
      refine e_op (o_n (nl rfl rfl tc (chC_row hN' hkr (by show 0 + 6 + k * 1 = 6 + k; omega))) rfl ?_)
      have htk : Ent [blk bc 66 (chC [.slice A0 g.Terms.length c0, .slice A1 g.Levels.length c1, .slice A2 g.Pats.length c2, .slice A3 g.Nons.length c3, .slice A4 g.Prods.length c4] (.slice Ak w.length ck) hcs' R' bs), chR hcs' R', chM bs R'] (rowA encEs 3 68 (hcs'[k]'(hhl ▸ hkr)) R'[k] :: [bun ((rowX encEs 3 68 hcs' R').eraseIdx k)]) :=
        Ent.wk (Ent.trans (Ent.cons (Ent.wk (Ent.nil _))) (ent_btake hhl hkr))
      refine e_openB htk (by omega) (fun b hb => ?_)
      have htk2 := htk
      unfold rowA at htk2
      rw [hb] at htk2 ⊢
      repeat' (((refine e_op ?_); (refine o_n (peval_sound rfl) rfl ?_)))
      refine e_op (o_n (n_index rfl rfl rfl rfl i rfl hil) rfl ?_)
      refine e_op (o_n (NEV.weak htk2 (n_load_osl rfl rfl .z (encEs_load hil))) rfl ?_)
      obtain ⟨x, hx⟩ : ∃ x, R'[k][i] = x := ⟨_, rfl⟩
      have hxm : x ∈ rw_ R' k := by rw [hgd, ← hx]; exact List.getElem_mem hil
      have hxo := (hI'.so k x hxm).ok hS.n0
      rw [hx]
      obtain ⟨xp, xd, xf⟩ := x
      unfold encE
      repeat' (first | refine e_nil ?_ | ((refine e_op ?_); (first | refine o_n (peval_sound rfl) rfl ?_ | refine o_n (nl rfl rfl tc rfl) rfl ?_ | refine o_storeC rfl rfl rfl rfl tc uc rfl rfl rfl ?_ | refine o_alloc rfl rfl (fun _ => ?_))) | refine s_region ?_)
      rename_i b5
      have hGo := hG0
      obtain ⟨_, _, _, _, _, _, _, _, _, _, ee, hG⟩ := kGram_open hG0
      cases ee
      obtain ⟨b9, o9, es9, hA4, hb9, he9, hc9⟩ := hG.prods.2.2 xp hxo.p
      obtain ⟨Ar, cr, rfl, hl9, hlN, hlK, hri⟩ := kPrd_open he9
      subst hA4
      have hcall := behC_w bc A0 A1 A2 A3 (some ⟨b9, o9, none⟩) c0 c1 c2 c3 c4 (.slice Ak w.length ck :: (rowC hcs' R' ++ bs.map fun b => Value.map (some b))) g xp xd xf hxo.p hxo.d
      refine e_op (o_call hcall rfl (.cons (.s .z) .nil) (Can.ro hGo) rfl ?_)
      rintro v V ⟨rfl, rfl⟩
      simp only [List.cons_append, List.nil_append]
      have hw1 : IntKind.i64.wrap ((i : Int) + 1) = ((i + 1 : Nat) : Int) := by rw [wrap_i64] <;> omega
      rw [hw1]
      refine e_weak (fr' := [(38, .tuple #[.int .i64 ((sym? g ⟨xp, xd, xf⟩).getD 0), .bool (sym? g ⟨xp, xd, xf⟩).isSome]), (5, ptrN b5), (4, .int .i64 (i + 1 : Nat)), (0, ptrN bc), (1, .int .i64 k)]) (V := [blk b5 68 [.int .i64 xp, .int .i64 xd, .int .i64 xf], blk bc 66 (chC [.slice A0 g.Terms.length c0, .slice A1 g.Levels.length c1, .slice A2 g.Pats.length c2, .slice A3 g.Nons.length c3, .slice (some ⟨b9, o9, none⟩) g.Prods.length c4] (.slice Ak w.length ck) hcs' R' bs), chR hcs' R', chM bs R']) ?_ (Ent.tak (.s .z) (Ent.refl _)) ?_
      · repeat' (first | exact Sub.nil _ | refine Sub.cons rfl ?_)
      have hil2 : i < (rw_ R' k).length := by rw [hgd]; exact hil
      have hx2 : (rw_ R' k)[i] = ⟨xp, xd, xf⟩ := by
        rw [← hx]; congr 1
      have hxE := hI'.so k _ hxm
      have hxp : xp < g.Prods.length := hxo.p
      have hlx := lhs_at hxp
      have hll := hS.ll xp hxp
      have htt := hS.tt
      have hnn := hS.nn
      have hstep : ∀ S : List (List EI), Mid g w R' S k → DoneE g w S k ⟨xp, xd, xf⟩ → (xf < k → ∀ y ∈ rw_ R' xf, CompE g S k ⟨xp, xd, xf⟩ y) → (xf = k → ∀ y ∈ rw_ R' k, CompE g S k ⟨xp, xd, xf⟩ y) → (∀ x ∈ rw_ R' k, x.f = k → CompE g S k x ⟨xp, xd, xf⟩) → RowI g w S k (i + 1) := by
        intro S hm a b c d
        refine hI'.step hS.n0 hil2 hm.more hm.so hm.nd ?_ ?_ ?_ ?_
        · rw [hx2]; exact a
        · rw [hx2]; exact b
        · rw [hx2]; exact c
        · intro x hx hf; rw [hx2]; exact d x hx hf
      rcases hsy : sym? g ⟨xp, xd, xf⟩ with _ | s
      · simp only [Option.getD_none, Option.isSome_none]
        have hxf61 : xf < 61 := by have := hxo.f; simp only at this; omega
        have hxfr : xf < R'.length := by rw [hN'.r]; exact hxf61
        have hgf : rw_ R' xf = R'[xf] := by show R'.getD xf [] = _; rw [List.getD_eq_getElem?_getD, List.getElem?_eq_getElem hxfr]; rfl
        have hBf : R'[xf].length ≤ 101504 := by
          rw [← hgf]
          exact row_len hS.np hS.rr (by omega) (hI'.nd xf) (fun x hx => (hI'.so xf x hx).ok hS.n0)
        repeat' (first | refine e_nil ?_ | ((refine e_op ?_); (first | refine o_n (peval_sound rfl) rfl ?_ | refine o_n (nl rfl rfl tc rfl) rfl ?_)) | refine s_seq ?_ | refine s_region ?_ | refine s_block ?_ | refine s_true rfl ?_)
        refine s_weak (fr' := [(8, .int .i64 g.Terms.length), (5, ptrN b5), (4, .int .i64 (i + 1 : Nat)), (0, ptrN bc), (1, .int .i64 k)]) (V := [rowA encEs 3 68 (hcs'[xf]'(hhl ▸ hxfr)) R'[xf], bun ((rowX encEs 3 68 hcs' R').eraseIdx xf), blk b5 68 [.int .i64 xp, .int .i64 xd, .int .i64 xf], blk bc 66 (chC [.slice A0 g.Terms.length c0, .slice A1 g.Levels.length c1, .slice A2 g.Pats.length c2, .slice A3 g.Nons.length c3, .slice (some ⟨b9, o9, none⟩) g.Prods.length c4] (.slice Ak w.length ck) hcs' R' bs), chM bs R']) ?_ (Ent.trans (Ent.tak (.s (.s .z)) (Ent.refl _)) (ent_btake hhl hxfr)) ?_
        · repeat' (first | exact Sub.nil _ | refine Sub.cons rfl ?_)
        refine s_anyU Try.mixed ?_
        (refine a_n 0 rfl (peval_sound rfl) (by decide +kernel) (by (exact Ent.refl _)) rfl ?_); (refine a_n 1 rfl (peval_sound rfl) (by decide +kernel) (by (exact Ent.refl _)) rfl ?_); (first | refine a_n 2 rfl (peval_sound rfl) (by decide +kernel) (by (exact Ent.refl _)) rfl ?_ | refine a_n 2 rfl (nl rfl rfl tc rfl) (by decide +kernel) (by (exact Ent.refl _)) rfl ?_); (refine a_n 3 rfl (peval_sound rfl) (by decide +kernel) (by (exact Ent.refl _)) rfl ?_); (refine a_n 4 rfl (peval_sound rfl) (by decide +kernel) (by (exact Ent.refl _)) rfl ?_)
        refine a_n 5 rfl (n_indexA rfl rfl rfl rfl xf rfl hxf61) (by decide +kernel) (Ent.refl _) rfl ?_
        refine a_n 6 rfl (nl rfl rfl tc (chC_row hN' hxfr (by show 0 + 6 + xf * 1 = 6 + xf; omega))) (by decide +kernel) (Ent.refl _) rfl ?_
        (refine a_n 9 rfl (peval_sound rfl) (by decide +kernel) (by (exact Ent.refl _)) rfl ?_)
        refine a_1 7 (by decide +kernel) rfl rfl (o_call (cloneE_w _ _ _ R'[xf] rfl (by omega)) rfl (.cons .z .nil) Can.tt rfl ?_)
        rintro v V ⟨Ac, cc, rfl, rfl⟩
        refine ⟨Ent.wk (Ent.refl _), ?_⟩
        (refine a_n 8 rfl (peval_sound rfl) (by decide +kernel) (by (repeat' (first | exact Ent.refl _ | refine Ent.wk ?_))) rfl ?_)
        refine a_done (by decide +kernel) ?_
        simp only [List.cons_append, List.nil_append]
        have hput := fun V => ent_bput (f := encEs) (sz := 3) (ei := 68) (V := V) hhl hxfr (ac := hcs'[xf]'(hhl ▸ hxfr)) (r := R'[xf])
        rw [List.set_getElem_self, List.set_getElem_self] at hput
        refine s_weak (fr' := [(59, .int .i64 0), (57, .slice Ac R'[xf].length cc), (58, .int .i64 R'[xf].length), (8, .int .i64 g.Terms.length), (5, ptrN b5), (4, .int .i64 (i + 1 : Nat)), (0, ptrN bc), (1, .int .i64 k)]) (V := [osl 68 3 (.slice Ac R'[xf].length cc) R'[xf].length (encEs R'[xf]), blk b5 68 [.int .i64 xp, .int .i64 xd, .int .i64 xf], blk bc 66 (chC [.slice A0 g.Terms.length c0, .slice A1 g.Levels.length c1, .slice A2 g.Pats.length c2, .slice A3 g.Nons.length c3, .slice (some ⟨b9, o9, none⟩) g.Prods.length c4] (.slice Ak w.length ck) hcs' R' bs), chR hcs' R', chM bs R']) ?_ ?_ ?_
        · repeat' (first | exact Sub.nil _ | refine Sub.cons rfl ?_)
        · exact Ent.cons (Ent.trans (hput _) (Ent.tak (.s .z) (Ent.tak (.s .z) (Ent.refl _))))
        repeat' (refine s_block ?_)
        refine s_loopK (ι := {z : Nat × AcL × List (List EI) // z.1 ≤ R'[xf].length ∧ ChN [.slice A0 g.Terms.length c0, .slice A1 g.Levels.length c1, .slice A2 g.Pats.length c2, .slice A3 g.Nons.length c3, .slice (some ⟨b9, o9, none⟩) g.Prods.length c4] z.2.1 z.2.2 bs ∧ Mid g w R' z.2.2 k ∧ ∀ (q : Nat) (h : q < R'[xf].length), q < z.1 → CompE g z.2.2 k ⟨xp, xd, xf⟩ R'[xf][q]}) [57, 58, 8, 5, 4, 0, 1] rfl ⟨(0, hcs', R'), Nat.zero_le _, hN', Mid.begin hI', fun q _ h => absurd h (Nat.not_lt_zero _)⟩ (fun z => [(59, .int .i64 z.1.1)])
          (fun z => [osl 68 3 (.slice Ac R'[xf].length cc) R'[xf].length (encEs R'[xf]), blk b5 68 [.int .i64 xp, .int .i64 xd, .int .i64 xf], blk bc 66 (chC [.slice A0 g.Terms.length c0, .slice A1 g.Levels.length c1, .slice A2 g.Pats.length c2, .slice A3 g.Nons.length c3, .slice (some ⟨b9, o9, none⟩) g.Prods.length c4] (.slice Ak w.length ck) z.1.2.1 z.1.2.2 bs), chR z.1.2.1 z.1.2.2, chM bs z.1.2.2]) (fun z => R'[xf].length - z.1.1) ?_ (Ent.refl _) ?_
        · repeat' (first | exact Sub.nil _ | refine Sub.cons rfl ?_)
        rintro ⟨⟨n, hcs3, S⟩, hn, hN3, hM3, hC3⟩
        simp only at hn hN3 hM3 hC3 ⊢
        repeat' (first | refine e_nil ?_ | ((refine e_op ?_); (refine o_n (peval_sound rfl) rfl ?_)) | refine s_seq ?_ | refine s_region ?_)
        by_cases hnl : n < R'[xf].length
        · rw [decide_eq_true (by omega : (n : Int) < (R'[xf].length : Int))]
          repeat' (first | refine s_seq ?_ | refine s_region ?_ | refine s_block ?_ | refine s_skip ?_ | refine s_true rfl ?_)
          refine e_open (.z) (by omega) (fun bz hz => ?_)
          subst hz
          refine e_op (o_n (n_index rfl rfl rfl rfl n rfl hnl) rfl ?_)
          refine e_op (o_n (n_load_osl rfl rfl .z (encEs_load hnl)) rfl ?_)
          have hym : R'[xf][n] ∈ rw_ R' xf := by rw [hgf]; exact List.getElem_mem hnl
          have hyE := hI'.so xf _ hym
          obtain ⟨y, hy⟩ : ∃ y, R'[xf][n] = y := ⟨_, rfl⟩
          rw [hy] at hym hyE ⊢
          have hyo := hyE.ok hS.n0
          obtain ⟨yp, yd, yf⟩ := y
          unfold encE
          repeat' (first | refine e_nil ?_ | ((refine e_op ?_); (first | refine o_n (peval_sound rfl) rfl ?_ | refine o_n (nl rfl rfl tc rfl) rfl ?_ | refine o_storeC rfl rfl rfl rfl tc uc rfl rfl rfl ?_ | refine o_alloc rfl rfl (fun _ => ?_))) | refine s_seq ?_ | refine s_region ?_)
          rename_i b10
          have hcall2 := behC_w bc A0 A1 A2 A3 (some ⟨b9, o9, none⟩) c0 c1 c2 c3 c4 (.slice Ak w.length ck :: (rowC hcs3 S ++ bs.map fun b => Value.map (some b))) g yp yd yf hyo.p hyo.d
          refine e_op (o_call hcall2 rfl (.cons (.s (.s (.s .z))) .nil) (Can.ro hGo) rfl ?_)
          rintro v V ⟨rfl, rfl⟩
          simp only [List.cons_append, List.nil_append]
          refine e_weak (fr' := [(66, .tuple #[.int .i64 ((sym? g ⟨yp, yd, yf⟩).getD 0), .bool (sym? g ⟨yp, yd, yf⟩).isSome]), (10, ptrN b10), (59, .int .i64 n), (57, .slice (some ⟨bz, 0, none⟩) R'[xf].length cc), (58, .int .i64 R'[xf].length), (8, .int .i64 g.Terms.length), (5, ptrN b5), (4, .int .i64 (i + 1 : Nat)), (0, ptrN bc), (1, .int .i64 k)]) (V := [blk b10 68 [.int .i64 yp, .int .i64 yd, .int .i64 yf], osl 68 3 (.slice (some ⟨bz, 0, none⟩) R'[xf].length cc) R'[xf].length (encEs R'[xf]), blk b5 68 [.int .i64 xp, .int .i64 xd, .int .i64 xf], blk bc 66 (chC [.slice A0 g.Terms.length c0, .slice A1 g.Levels.length c1, .slice A2 g.Pats.length c2, .slice A3 g.Nons.length c3, .slice (some ⟨b9, o9, none⟩) g.Prods.length c4] (.slice Ak w.length ck) hcs3 S bs), chR hcs3 S, chM bs S]) ?_ (Ent.tak (.s .z) (Ent.tak (.s .z) (Ent.tak (.s .z) (Ent.refl _)))) ?_
          · repeat' (first | exact Sub.nil _ | refine Sub.cons rfl ?_)
          have hw2 : IntKind.i64.wrap ((g.Terms.length : Int) + g.Prods[xp].Left) = (g.Terms.length : Int) + g.Prods[xp].Left := by
            rw [← hlx, wrap_i64] <;> omega
          have hw3 : IntKind.i64.wrap ((n : Int) + 1) = ((n + 1 : Nat) : Int) := by rw [wrap_i64] <;> omega
          have hnot : (∀ s2, sym? g ⟨yp, yd, yf⟩ = some s2 → ¬ s2 < g.Terms.length → ¬ lhs g xp = s2 - g.Terms.length) → ∀ (q : Nat) (h : q < R'[xf].length), q < n + 1 → CompE g S k ⟨xp, xd, xf⟩ R'[xf][q] := fun he q hq hqn => by
            by_cases e : q = n
            · subst e
              rw [hy]
              exact fun s2 _ h2 h3 h4 => absurd h4 (he s2 h2 h3)
            · exact hC3 q hq (by omega)
          rcases hsy2 : sym? g ⟨yp, yd, yf⟩ with _ | s2
          · simp only [Option.getD_none, Option.isSome_none]
            repeat' (first | refine e_nil ?_ | ((refine e_op ?_); (refine o_n (peval_sound rfl) rfl ?_)) | refine s_seq ?_)
            refine s_drawU [] Try.mixed (by decide +kernel) ?_
            repeat' (first | refine l_nil ?_ | ((first | refine l_no rfl rfl rfl ?_ rfl ?_ | refine l_n (peval_sound rfl) rfl ?_ rfl ?_); · (exact Ent.refl _)))
            repeat' (first | refine e_nil ?_ | ((refine e_op ?_); (refine o_n (peval_sound rfl) rfl ?_)) | refine s_region ?_ | refine s_end ?_ | refine s_skip ?_ | refine s_false rfl ?_)
            rw [hw3]
            refine s_back ⟨⟨(n + 1, hcs3, S), hnl, hN3, hM3, hnot (fun s2 h2 => by rw [hsy2] at h2; cases h2)⟩, by simp only; omega, ?_, Ent.wk (Ent.refl _)⟩
            repeat' (first | exact Sub.nil _ | refine Sub.cons rfl ?_)
          · simp only [Option.getD_some, Option.isSome_some]
            repeat' (first | refine e_nil ?_ | ((refine e_op ?_); (refine o_n (peval_sound rfl) rfl ?_)) | refine s_seq ?_)
            refine s_drawU [] Try.mixed (by decide +kernel) ?_
            repeat' (((first | refine l_n (peval_sound rfl) rfl ?_ rfl ?_ | refine l_ny rfl (peval_sound rfl) rfl ?_ rfl ?_ | refine l_ny rfl (nl rfl rfl tc rfl) rfl ?_ rfl ?_); · (exact Ent.refl _)))
            refine l_ny rfl (n_index rfl rfl rfl rfl xp rfl hxo.p) rfl (Ent.refl _) rfl ?_
            repeat' (((refine l_ny rfl (peval_sound rfl) rfl ?_ rfl ?_); · (exact Ent.refl _)))
            refine l_ny rfl (n_load_ro rfl rfl hb9 (loads_one rfl (hc9 0 _ rfl))) rfl (Ent.refl _) rfl ?_
            repeat' (first | refine l_nil ?_ | ((first | refine l_n (peval_sound rfl) rfl ?_ rfl ?_ | refine l_ny rfl (peval_sound rfl) rfl ?_ rfl ?_); · (exact Ent.refl _)))
            rw [hw2]
            have hkS : k < S.length := by rw [hN3.r]; exact hk61
            have hgS : rw_ S k = S[k] := by show S.getD k [] = _; rw [List.getD_eq_getElem?_getD, List.getElem?_eq_getElem hkS]; rfl
            have hBS : S[k].length ≤ 101504 := by
              rw [← hgS]
              exact row_len hS.np hS.rr (by omega) (hM3.nd k) (fun x hx => (hM3.so k x hx).ok hS.n0)
            by_cases he : s2 = (g.Terms.length : Int) + g.Prods[xp].Left
            · rw [show (s2 == (g.Terms.length : Int) + g.Prods[xp].Left) = true by simpa using he]
              repeat' (first | refine e_nil ?_ | ((refine e_op ?_); (first | refine o_n (peval_sound rfl) rfl ?_ | refine o_n (nl rfl rfl tc rfl) rfl ?_ | refine o_storeC rfl rfl rfl rfl tc uc rfl rfl rfl ?_)) | refine s_seq ?_ | refine s_region ?_ | refine s_true rfl ?_)
              have hyd : yd ≤ 12 := by
                have h1 := hyo.d
                have h2 := hS.rr _ hyo.p
                simp only at h1 h2
                omega
              have hw4 : IntKind.i64.wrap ((yd : Int) + 1) = ((yd + 1 : Nat) : Int) := by rw [wrap_i64] <;> omega
              obtain ⟨hM4, hin, hmm⟩ := hM3.add (x := ⟨yp, yd + 1, yf⟩) (j := k) (Ein.comp hxE hsy hyE hsy2 (by omega) (by rw [hlx]; omega)) (.inl rfl) hkS
              simp only [hw4]
              refine e_op (o_call (add_w bc [.slice A0 g.Terms.length c0, .slice A1 g.Levels.length c1, .slice A2 g.Pats.length c2, .slice A3 g.Nons.length c3, .slice (some ⟨b9, o9, none⟩) g.Prods.length c4] (.slice Ak w.length ck) hcs3 S bs hN3 k hkS ⟨yp, yd + 1, yf⟩ (by omega)) rfl (.cons (.s (.s (.s .z))) (.cons (.s (.s (.s .z))) (.cons (.s (.s (.s .z))) .nil))) Can.tt rfl ?_)
              rintro v V ⟨hcs4, rfl, hh4, rfl⟩
              simp only [List.cons_append, List.nil_append]
              repeat' (first | refine e_nil ?_ | ((refine e_op ?_); (refine o_n (peval_sound rfl) rfl ?_)) | refine s_region ?_ | refine s_end ?_)
              rw [hw3]
              refine s_back ⟨⟨(n + 1, hcs4, addR S k ⟨yp, yd + 1, yf⟩), hnl, ⟨hN3.g, hh4, by rw [addR_len]; exact hN3.r, hN3.b⟩, hM4, fun q hq hqn => ?_⟩, by simp only; omega, ?_, ?_⟩
              · by_cases e : q = n
                · subst e
                  rw [hy]
                  exact fun _ _ _ _ _ => hin
                · exact (hC3 q hq (by omega)).more hmm
              · repeat' (first | exact Sub.nil _ | refine Sub.cons rfl ?_)
              · exact Ent.tak (.s (.s (.s (.s .z)))) (Ent.tak (.s (.s (.s (.s .z)))) (Ent.tak .z (Ent.tak .z (Ent.tak .z (Ent.nil _)))))
            · rw [show (s2 == (g.Terms.length : Int) + g.Prods[xp].Left) = false by simpa using he]
              repeat' (first | refine e_nil ?_ | ((refine e_op ?_); (refine o_n (peval_sound rfl) rfl ?_)) | refine s_region ?_ | refine s_end ?_ | refine s_skip ?_ | refine s_false rfl ?_)
              rw [hw3]
              refine s_back ⟨⟨(n + 1, hcs3, S), hnl, hN3, hM3, hnot (fun s3 h2 h3 h4 => by rw [hsy2] at h2; cases h2; rw [hlx] at h4; omega)⟩, by simp only; omega, ?_, Ent.wk (Ent.refl _)⟩
              repeat' (first | exact Sub.nil _ | refine Sub.cons rfl ?_)
        · rw [decide_eq_false (by omega : ¬ (n : Int) < (R'[xf].length : Int))]
          obtain rfl : n = R'[xf].length := by omega
          repeat' (first | refine s_end ?_ | refine s_exit ?_ | refine s_false rfl ?_ | refine x_hit ?_ | refine x_code ?_ | refine x_back ?_)
          have hcm : ∀ y ∈ rw_ R' xf, CompE g S k ⟨xp, xd, xf⟩ y := fun y hy => by
            rw [hgf] at hy
            obtain ⟨q, hq, rfl⟩ := List.getElem_of_mem hy
            exact hC3 q hq hq
          refine s_back ⟨⟨⟨i + 1, hcs3, S⟩, hN3, hstep S hM3 ⟨fun s h => (by rw [hsy] at h; cases h), fun s h => (by rw [hsy] at h; cases h)⟩ (fun _ => hcm) (fun e => e ▸ hcm) (fun y hy hf s h1 h2 => by rw [hsy] at h2; cases h2)⟩, by simp only; omega, ?_, Ent.wk (Ent.wk (Ent.refl _))⟩
          repeat' (first | exact Sub.nil _ | refine Sub.cons rfl ?_)
      · simp only [Option.getD_some, Option.isSome_some]
        have hsr := hS.rs xp hxp s (sym_mem hsy)
        have hxdl : xd < (rhs g xp).length := (List.getElem?_eq_some_iff.1 hsy).1
        have hxd12 : xd ≤ 12 := by
          have h2 := hS.rr _ hxp
          omega
        have hw4 : IntKind.i64.wrap ((xd : Int) + 1) = ((xd + 1 : Nat) : Int) := by rw [wrap_i64] <;> omega
        have hwk : IntKind.i64.wrap ((k : Int) + 1) = ((k + 1 : Nat) : Int) := by rw [wrap_i64] <;> omega
        have hb1 : ∀ S : List (List EI), (xf < k → ∀ y ∈ rw_ R' xf, CompE g S k ⟨xp, xd, xf⟩ y) ∧ (xf = k → ∀ y ∈ rw_ R' k, CompE g S k ⟨xp, xd, xf⟩ y) := fun S => ⟨fun _ y _ _ h => (by rw [hsy] at h; cases h), fun _ y _ _ h => (by rw [hsy] at h; cases h)⟩
        repeat' (first | refine e_nil ?_ | ((refine e_op ?_); (first | refine o_n (peval_sound rfl) rfl ?_ | refine o_n (nl rfl rfl tc rfl) rfl ?_)) | refine s_seq ?_ | refine s_region ?_ | refine s_block ?_ | refine s_false rfl ?_)
        by_cases hsT : s < g.Terms.length
        · rw [decide_eq_false (p := (s ≥ (g.Terms.length : Int))) (by omega)]
          have hb2 : ∀ S : List (List EI), ∀ y ∈ rw_ R' k, y.f = k → CompE g S k y ⟨xp, xd, xf⟩ := fun S y _ _ s2 _ h2 h3 => by rw [hsy] at h2; cases h2; exact absurd hsT h3
          have hb0 : ∀ S : List (List EI), (w[k]? = some s → (⟨xp, xd + 1, xf⟩ : EI) ∈ rw_ S (k + 1)) → DoneE g w S k ⟨xp, xd, xf⟩ := fun S h => ⟨fun s2 h2 h3 => (by rw [hsy] at h2; cases h2; exact absurd hsT h3), fun s2 h2 _ h3 => (by rw [hsy] at h2; cases h2; exact h h3)⟩
          by_cases hkw : k < w.length
          · obtain ⟨Ak', ck', e2, k1, k2, k3⟩ := hK
            cases e2
            obtain ⟨bk, ok, esk, hAk, hbk, hrk, hck⟩ := k3 k hkw
            subst hAk
            obtain ⟨rfl, h64⟩ := hrk
            repeat' (first | ((refine e_op ?_); (first | refine o_n (peval_sound rfl) rfl ?_ | refine o_n (nl rfl rfl tc rfl) rfl ?_)) | refine s_seq ?_ | refine s_region ?_ | refine s_false rfl ?_)
            rw [decide_eq_true (p := ((k : Int) < (w.length : Int))) (by omega)]
            repeat' (((refine e_yes rfl ?_); (first | refine o_n (peval_sound rfl) rfl ?_ | refine o_n (nl rfl rfl tc rfl) rfl ?_)))
            refine e_yes rfl (o_n (n_index rfl rfl rfl rfl k rfl hkw) rfl ?_)
            refine e_yes rfl (o_n (n_load_ro rfl rfl hbk (loads_one rfl (hck 0 _ rfl))) rfl ?_)
            repeat' (first | refine e_nil ?_ | ((first | refine e_op ?_ | refine e_yes rfl ?_); (refine o_n (peval_sound rfl) rfl ?_)))
            by_cases hws : w[k] = s
            · rw [show (w[k] == s) = true by simpa using hws]
              repeat' (first | refine e_nil ?_ | ((refine e_op ?_); (first | refine o_n (peval_sound rfl) rfl ?_ | refine o_n (nl rfl rfl tc rfl) rfl ?_ | refine o_storeC rfl rfl rfl rfl tc uc rfl rfl rfl ?_)) | refine s_seq ?_ | refine s_region ?_ | refine s_true rfl ?_)
              simp only [hw4, hwk]
              have hk1 : k + 1 < R'.length := by rw [hN'.r]; omega
              have hB1 : R'[k + 1].length ≤ 101504 := by
                have hg1 : rw_ R' (k + 1) = R'[k + 1] := by show R'.getD _ [] = _; rw [List.getD_eq_getElem?_getD, List.getElem?_eq_getElem hk1]; rfl
                rw [← hg1]
                exact row_len hS.np hS.rr (by omega) (hI'.nd (k + 1)) (fun x hx => (hI'.so _ x hx).ok hS.n0)
              obtain ⟨hM4, hin, hmm⟩ := (Mid.begin hI').add (x := ⟨xp, xd + 1, xf⟩) (j := k + 1) (Ein.scan hxE hsy hsT (by rw [List.getElem?_eq_getElem hkw, hws])) (.inr rfl) hk1
              refine e_op (o_call (add_w bc [.slice A0 g.Terms.length c0, .slice A1 g.Levels.length c1, .slice A2 g.Pats.length c2, .slice A3 g.Nons.length c3, .slice (some ⟨b9, o9, none⟩) g.Prods.length c4] (.slice (some ⟨bk, ok, none⟩) w.length ck) hcs' R' bs hN' (k + 1) hk1 ⟨xp, xd + 1, xf⟩ (by omega)) rfl (.cons (.s .z) (.cons (.s .z) (.cons (.s .z) .nil))) Can.tt rfl ?_)
              rintro v V ⟨hcs4, rfl, hh4, rfl⟩
              simp only [List.cons_append, List.nil_append]
              repeat' (first | refine e_nil ?_ | refine s_end ?_)
              refine s_back ⟨⟨⟨i + 1, hcs4, addR R' (k + 1) ⟨xp, xd + 1, xf⟩⟩, ⟨hN'.g, hh4, by rw [addR_len]; exact hN'.r, hN'.b⟩, hstep _ hM4 (hb0 _ fun _ => hin) (hb1 _).1 (hb1 _).2 (hb2 _)⟩, by simp only; omega, ?_, ?_⟩
              · repeat' (first | exact Sub.nil _ | refine Sub.cons rfl ?_)
              · exact Ent.tak .z (Ent.tak .z (Ent.tak .z (Ent.nil _)))
            · rw [show (w[k] == s) = false by simpa using hws]
              repeat' (first | refine s_end ?_ | refine s_skip ?_ | refine s_false rfl ?_)
              refine s_back ⟨⟨⟨i + 1, hcs', R'⟩, hN', hstep _ (Mid.begin hI') (hb0 _ fun h => absurd (Option.some.inj ((List.getElem?_eq_getElem hkw).symm.trans h)) hws) (hb1 _).1 (hb1 _).2 (hb2 _)⟩, by simp only; omega, ?_, Ent.wk (Ent.refl _)⟩
              repeat' (first | exact Sub.nil _ | refine Sub.cons rfl ?_)
          · repeat' (first | ((refine e_op ?_); (first | refine o_n (peval_sound rfl) rfl ?_ | refine o_n (nl rfl rfl tc rfl) rfl ?_)) | refine s_seq ?_ | refine s_region ?_ | refine s_false rfl ?_)
            rw [decide_eq_false (p := ((k : Int) < (w.length : Int))) (by omega)]
            repeat' (first | refine e_nil ?_ | ((refine e_op ?_); (refine o_n (peval_sound rfl) rfl ?_)) | refine e_noU rfl rfl rfl ?_ | refine s_end ?_ | refine s_skip ?_ | refine s_false rfl ?_)
            refine s_back ⟨⟨⟨i + 1, hcs', R'⟩, hN', hstep _ (Mid.begin hI') (hb0 _ fun h => absurd (List.getElem?_eq_some_iff.1 h).1 hkw) (hb1 _).1 (hb1 _).2 (hb2 _)⟩, by simp only; omega, ?_, Ent.wk (Ent.refl _)⟩
            repeat' (first | exact Sub.nil _ | refine Sub.cons rfl ?_)
        · rw [decide_eq_true (p := (s ≥ (g.Terms.length : Int))) (by omega)]
          have hws : IntKind.i64.wrap (s - (g.Terms.length : Int)) = s - g.Terms.length := by rw [wrap_i64] <;> omega
          repeat' (first | refine e_nil ?_ | ((refine e_op ?_); (first | refine o_n (peval_sound rfl) rfl ?_ | refine o_n (nl rfl rfl tc rfl) rfl ?_)) | refine s_seq ?_ | refine s_region ?_ | refine s_block ?_ | refine s_true rfl ?_)
          refine s_loopK (ι := {z : Nat × AcL × List (List EI) // z.1 ≤ g.Prods.length ∧ ChN [.slice A0 g.Terms.length c0, .slice A1 g.Levels.length c1, .slice A2 g.Pats.length c2, .slice A3 g.Nons.length c3, .slice (some ⟨b9, o9, none⟩) g.Prods.length c4] z.2.1 z.2.2 bs ∧ Mid g w R' z.2.2 k ∧ ∀ q, q < z.1 → lhs g q = s - g.Terms.length → (⟨q, 0, k⟩ : EI) ∈ rw_ z.2.2 k}) [104, 103, 6, 8, 5, 4, 0, 1] rfl ⟨(0, hcs', R'), Nat.zero_le _, hN', Mid.begin hI', fun q h => absurd h (Nat.not_lt_zero _)⟩ (fun z => [(105, .int .i64 z.1.1)])
            (fun z => [blk b5 68 [.int .i64 xp, .int .i64 xd, .int .i64 xf], blk bc 66 (chC [.slice A0 g.Terms.length c0, .slice A1 g.Levels.length c1, .slice A2 g.Pats.length c2, .slice A3 g.Nons.length c3, .slice (some ⟨b9, o9, none⟩) g.Prods.length c4] (.slice Ak w.length ck) z.1.2.1 z.1.2.2 bs), chR z.1.2.1 z.1.2.2, chM bs z.1.2.2]) (fun z => g.Prods.length - z.1.1) ?_ (Ent.refl _) ?_
          · repeat' (first | exact Sub.nil _ | refine Sub.cons rfl ?_)
          rintro ⟨⟨n, hcs3, S⟩, hn, hN3, hM3, hC3⟩
          simp only at hn hN3 hM3 hC3 ⊢
          have hkS : k < S.length := by rw [hN3.r]; exact hk61
          have hgS : rw_ S k = S[k] := by show S.getD k [] = _; rw [List.getD_eq_getElem?_getD, List.getElem?_eq_getElem hkS]; rfl
          have hBS : S[k].length ≤ 101504 := by
            rw [← hgS]
            exact row_len hS.np hS.rr (by omega) (hM3.nd k) (fun x hx => (hM3.so k x hx).ok hS.n0)
          repeat' (first | refine e_nil ?_ | ((refine e_op ?_); (refine o_n (peval_sound rfl) rfl ?_)) | refine s_seq ?_ | refine s_region ?_)
          by_cases hnl : n < g.Prods.length
          · rw [decide_eq_true (by omega : (n : Int) < (g.Prods.length : Int))]
            have hw3 : IntKind.i64.wrap ((n : Int) + 1) = ((n + 1 : Nat) : Int) := by
              have := hS.np
              rw [wrap_i64] <;> omega
            have hln := lhs_at hnl
            obtain ⟨b6, o6, es6, ee6, hb6, he6, hc6⟩ := hG.prods.2.2 n hnl
            cases ee6
            obtain ⟨Ar6, cr6, rfl, hl6, hlN6, hlK6, hri6⟩ := kPrd_open he6
            repeat' (first | ((refine e_op ?_); (refine o_n (peval_sound rfl) rfl ?_)) | refine s_seq ?_ | refine s_region ?_ | refine s_block ?_ | refine s_skip ?_ | refine s_true rfl ?_)
            refine e_op (o_n (n_index rfl rfl rfl rfl n rfl hnl) rfl ?_)
            refine e_op (o_n (n_load_ro rfl rfl hb6 (loads_agg rfl rfl hc6)) rfl ?_)
            repeat' (first | refine e_nil ?_ | ((refine e_op ?_); (first | refine o_n (peval_sound rfl) rfl ?_ | refine o_n (nl rfl rfl tc rfl) rfl ?_ | refine o_storeC rfl rfl rfl rfl tc uc rfl rfl rfl ?_ | refine o_alloc rfl rfl (fun _ => ?_))) | refine s_seq ?_ | refine s_region ?_)
            rw [hws]
            by_cases he : g.Prods[n].Left = s - (g.Terms.length : Int)
            · rw [show (g.Prods[n].Left == s - (g.Terms.length : Int)) = true by simpa using he]
              repeat' (first | ((refine e_op ?_); (refine o_n (peval_sound rfl) rfl ?_)) | refine s_region ?_ | refine s_true rfl ?_)
              obtain ⟨hM4, hin, hmm⟩ := hM3.add (x := ⟨n, 0, k⟩) (j := k) (Ein.pred hxE hsy hsT hnl (by rw [hln]; exact he)) (.inl rfl) hkS
              refine e_op (o_call (add_w bc [.slice A0 g.Terms.length c0, .slice A1 g.Levels.length c1, .slice A2 g.Pats.length c2, .slice A3 g.Nons.length c3, .slice (some ⟨b9, o9, none⟩) g.Prods.length c4] (.slice Ak w.length ck) hcs3 S bs hN3 k hkS ⟨n, 0, k⟩ (by omega)) rfl (.cons (.s (.s .z)) (.cons (.s (.s .z)) (.cons (.s (.s .z)) .nil))) Can.tt rfl ?_)
              rintro v V ⟨hcs4, rfl, hh4, rfl⟩
              simp only [List.cons_append, List.nil_append]
              repeat' (first | refine e_nil ?_ | ((refine e_op ?_); (refine o_n (peval_sound rfl) rfl ?_)) | refine s_region ?_ | refine s_end ?_)
              rw [hw3]
              refine s_back ⟨⟨(n + 1, hcs4, addR S k ⟨n, 0, k⟩), hnl, ⟨hN3.g, hh4, by rw [addR_len]; exact hN3.r, hN3.b⟩, hM4, fun q hqn hq => ?_⟩, by simp only; omega, ?_, ?_⟩
              · by_cases e : q = n
                · subst e; exact hin
                · exact hmm.mem (hC3 q (by omega) hq)
              · repeat' (first | exact Sub.nil _ | refine Sub.cons rfl ?_)
              · exact Ent.tak (.s (.s (.s (.s .z)))) (Ent.tak .z (Ent.tak .z (Ent.tak .z (Ent.nil _))))
            · rw [show (g.Prods[n].Left == s - (g.Terms.length : Int)) = false by simpa using he]
              repeat' (first | refine e_nil ?_ | ((refine e_op ?_); (refine o_n (peval_sound rfl) rfl ?_)) | refine s_region ?_ | refine s_end ?_ | refine s_skip ?_ | refine s_false rfl ?_)
              rw [hw3]
              refine s_back ⟨⟨(n + 1, hcs3, S), hnl, hN3, hM3, fun q hqn hq => ?_⟩, by simp only; omega, ?_, Ent.wk (Ent.refl _)⟩
              · by_cases e : q = n
                · subst e; rw [hln] at hq; exact absurd hq he
                · exact hC3 q (by omega) hq
              · repeat' (first | exact Sub.nil _ | refine Sub.cons rfl ?_)
          · rw [decide_eq_false (by omega : ¬ (n : Int) < (g.Prods.length : Int))]
            obtain rfl : n = g.Prods.length := by omega
            repeat' (first | ((refine e_op ?_); (refine o_n (peval_sound rfl) rfl ?_)) | refine s_seq ?_ | refine s_region ?_ | refine s_exit ?_ | refine s_false rfl ?_ | refine x_hit ?_ | refine x_code ?_ | refine x_back ?_)
            rw [hws]
            refine e_op (o_call (ended_w bc A0 A1 A2 A3 (some ⟨b9, o9, none⟩) c0 c1 c2 c3 c4 (.slice Ak w.length ck) hcs3 S bs g hN3 (s - g.Terms.length) k hkS (fun x hx => ((hM3.so k x (by rw [hgS]; exact hx)).ok hS.n0).p)) rfl (.cons (.s .z) (.cons (.s (.s .z)) .nil)) (Can.ro hGo) rfl ?_)
            rintro v V ⟨rfl, rfl⟩
            simp only [List.cons_append, List.nil_append]
            have hb0 : ∀ S' : List (List EI), MoreR S S' k → DoneE g w S' k ⟨xp, xd, xf⟩ := fun S' hm => ⟨fun s2 h2 _ q hq hlq => (by rw [hsy] at h2; cases h2; exact hm.mem (hC3 q hq hlq)), fun s2 h2 h3 => (by rw [hsy] at h2; cases h2; exact absurd h3 hsT)⟩
            repeat' (refine e_nil ?_)
            by_cases hen : S[k].any (endB g (s - g.Terms.length) k) = true
            · rw [hen]
              obtain ⟨z, hzm, hz⟩ := List.any_eq_true.1 hen
              unfold endB at hz
              simp only [Bool.and_eq_true, decide_eq_true_eq] at hz
              obtain ⟨hz1, hz2, hz3⟩ := hz
              have hzE := hM3.so k z (by rw [hgS]; exact hzm)
              have hzn : sym? g z = none := List.getElem?_eq_none (by rw [hz3]; exact Nat.le_refl _)
              obtain ⟨hM4, hin, hmm⟩ := hM3.add (x := ⟨xp, xd + 1, xf⟩) (j := k) (Ein.comp hzE hzn (by rw [hz1]; exact hxE) hsy hsT hz2) (.inl rfl) hkS
              repeat' (first | refine e_nil ?_ | ((refine e_op ?_); (first | refine o_n (peval_sound rfl) rfl ?_ | refine o_n (nl rfl rfl tc rfl) rfl ?_ | refine o_storeC rfl rfl rfl rfl tc uc rfl rfl rfl ?_)) | refine s_seq ?_ | refine s_region ?_ | refine s_true rfl ?_)
              simp only [hw4]
              refine e_op (o_call (add_w bc [.slice A0 g.Terms.length c0, .slice A1 g.Levels.length c1, .slice A2 g.Pats.length c2, .slice A3 g.Nons.length c3, .slice (some ⟨b9, o9, none⟩) g.Prods.length c4] (.slice Ak w.length ck) hcs3 S bs hN3 k hkS ⟨xp, xd + 1, xf⟩ (by omega)) rfl (.cons .z (.cons (.s (.s .z)) (.cons .z .nil))) Can.tt rfl ?_)
              rintro v V ⟨hcs4, rfl, hh4, rfl⟩
              simp only [List.cons_append, List.nil_append]
              repeat' (first | refine e_nil ?_ | refine s_end ?_)
              refine s_back ⟨⟨⟨i + 1, hcs4, addR S k ⟨xp, xd + 1, xf⟩⟩, ⟨hN3.g, hh4, by rw [addR_len]; exact hN3.r, hN3.b⟩, hstep _ hM4 (hb0 _ hmm) (hb1 _).1 (hb1 _).2 (fun _ _ _ _ _ _ _ _ => hin)⟩, by simp only; omega, ?_, ?_⟩
              · repeat' (first | exact Sub.nil _ | refine Sub.cons rfl ?_)
              · exact Ent.tak .z (Ent.tak .z (Ent.tak .z (Ent.nil _)))
            · have hen2 : S[k].any (endB g (s - g.Terms.length) k) = false := by simpa using hen
              rw [hen2]
              repeat' (first | refine s_end ?_ | refine s_skip ?_ | refine s_false rfl ?_)
              refine s_back ⟨⟨⟨i + 1, hcs3, S⟩, hN3, hstep _ hM3 (hb0 _ (MoreR.refl _ _)) (hb1 _).1 (hb1 _).2 (fun y hy hyf s2 h1 h2 h3 h4 => ?_)⟩, by simp only; omega, ?_, ?_⟩
              · exfalso
                apply hen
                rw [List.any_eq_true]
                have hyS := hM3.more.mem hy
                have hyo := (hM3.so k y hyS).ok hS.n0
                refine ⟨y, by rw [← hgS]; exact hyS, ?_⟩
                unfold endB
                rw [hsy] at h2; cases h2
                have := List.getElem?_eq_none_iff.1 h1
                have := hyo.d
                rw [decide_eq_true hyf, decide_eq_true h4, decide_eq_true (by omega)]; rfl
              · repeat' (first | exact Sub.nil _ | refine Sub.cons rfl ?_)
              · exact Ent.tak .z (Ent.tak (.s (.s .z)) (Ent.tak .z (Ent.nil _)))
    · rw [show ((i : Int) == (R'[k].length : Int)) = true by rw [beq_iff_eq]; omega]
      repeat' (refine s_true rfl ?_)
      refine s_ret ⟨_, _, res0 rfl, ⟨hcs', R', rfl, hN', hI'.next hS.n0 (by rw [hgd]; omega), rfl⟩, Ent.refl _⟩

end Go.Proofs.Ytjeimmekhfhepaa

namespace Go.Proofs.Ytjeimmekhfhepaa
set_option linter.all false
open Go.Proofs.Ytjeimmekhfhepaa.E

abbrev hc0 : AcL := List.replicate 61 (none, 0)
abbrev R0_ : List (List EI) := List.replicate 61 []
def chI (gs : List Value) (K : Value) (bs : List Nat) : List Value := gs ++ K :: (rowC hc0 R0_ ++ (bs.map (fun b => Value.map (some b)) ++ List.replicate (61 - bs.length) (Value.map none)))
theorem chI_end {gs : List Value} {K : Value} {bs : List Nat} (h : bs.length = 61) : chI gs K bs = chC gs K hc0 R0_ bs := by
  unfold chI chC
  rw [h, Nat.sub_self, List.replicate_zero, List.append_nil]
theorem chI_len {gs : List Value} {K : Value} {bs : List Nat} (hg : gs.length = 5) (h : bs.length ≤ 61) : (chI gs K bs).length = 128 := by
  have hr : (rowC hc0 R0_).length = 61 := by rw [rowC_len (by simp)]; simp
  unfold chI
  rw [List.length_append, List.length_cons, List.length_append, List.length_append, hr, hg, List.length_map, List.length_replicate]
  omega
theorem chI_set {gs : List Value} {K : Value} {bs : List Nat} (hg : gs.length = 5) (h : bs.length < 61) {o : Nat} (ho : o = 67 + bs.length) (b : Nat) : setMany (chI gs K bs) o [Value.map (some b)] = chI gs K (bs ++ [b]) := by
  subst ho
  have hr : (rowC hc0 R0_).length = 61 := by rw [rowC_len (by simp)]; simp
  show (chI gs K bs).set (67 + bs.length) _ = _
  unfold chI
  rw [List.set_append_right _ _ (by omega), hg, show 67 + bs.length - 5 = (61 + bs.length) + 1 by omega, List.set_cons_succ, List.set_append_right _ _ (by omega), hr, show 61 + bs.length - 61 = bs.length by omega, List.set_append_right _ _ (by simp), List.length_map, Nat.sub_self, List.map_append, List.append_assoc]
  obtain ⟨m, hm⟩ : ∃ m, 61 - bs.length = m + 1 := ⟨60 - bs.length, by omega⟩
  have hm2 : 61 - (bs ++ [b]).length = m := by rw [List.length_append, List.length_singleton]; omega
  rw [hm, hm2, List.replicate_succ, List.set_cons_zero]; rfl
theorem rw0 (j : Nat) : rw_ R0_ j = [] := by
  show (List.replicate 61 []).getD j [] = []
  rw [List.getD_eq_getElem?_getD, List.getElem?_replicate]
  split <;> rfl
theorem row0 (g : Gram) (w : List Int) : RowI g w (addR R0_ 0 ⟨0, 0, 0⟩) 0 0 := by
  have h0 : rw_ (addR R0_ 0 ⟨0, 0, 0⟩) 0 = [⟨0, 0, 0⟩] := by rw [addR_eq _ _ (by simp), rw0]; rfl
  have h1 : ∀ j, j ≠ 0 → rw_ (addR R0_ 0 ⟨0, 0, 0⟩) j = [] := fun j hj => by rw [addR_ne _ _ hj, rw0]
  refine ⟨fun j x hx => ?_, fun j => ?_, by rw [h0]; simp, fun j hj => absurd hj (Nat.not_lt_zero _), Nat.zero_le _, fun q _ hq => absurd hq (Nat.not_lt_zero _), fun q _ hq => absurd hq (Nat.not_lt_zero _), fun q _ _ _ hq => absurd hq (Nat.not_lt_zero _), fun j hj => h1 j (by omega)⟩
  · by_cases e : j = 0
    · subst e; rw [h0, List.mem_singleton] at hx; subst hx; exact .start
    · rw [h1 j e] at hx; cases hx
  · by_cases e : j = 0
    · subst e; rw [h0]; simp
    · rw [h1 j e]; exact List.nodup_nil
theorem ent_bunSnoc {A : Asn} {L V : List Asn} : Ent (A :: bun L :: V) (bun (L ++ [A]) :: V) := by
  refine (Ent.cons ent_unbun).trans (Ent.mid.trans ?_)
  refine Ent.trans ?_ ent_bun
  rw [List.append_assoc]
  exact Ent.refl _
theorem mp0 {bs : List Nat} (h : bs.length = 61) : bs.map (fun b => mpA b []) = List.zipWith mpA bs R0_ := by
  apply List.ext_getElem
  · simp [h]
  · intro i h1 h2
    rw [List.getElem_map, List.getElem_zipWith, List.getElem_replicate]

attribute [local irreducible] EVX EVO EVL EV1 NEV
attribute [local irreducible] own osl exA rdA rdL
attribute [local irreducible] bldA mapA bun mapS nums iterA
set_option maxRecDepth 10000
set_option maxHeartbeats 4000000

theorem chart_w (cs : List Value) (g : Gram) (Ak : Option Addr) (ck : Nat) (w : List Int) :
    Trip Try.prog 24 [.agg cs.toArray, .slice Ak w.length ck] ((kGram.rd cs g).and ((kslice 8 kint).rd [.slice Ak w.length ck] w)) []
      (fun v V => (chkE g w ≠ 0 ∧ v = .tuple #[.pointer none, .int .i64 (chkE g w)] ∧ V = []) ∨ (chkE g w = 0 ∧ ∃ bc hcs R bs, v = .tuple #[ptrN bc, .int .i64 0] ∧ ChN cs hcs R bs ∧ RowI g w R (w.length + 1) 0 ∧ V = [blk bc 66 (chC cs (.slice Ak w.length ck) hcs R bs), chR hcs R, chM bs R])) := by
  refine trip Try.tabOk Try.func24 rfl rfl rfl rfl ?_
  rintro wd SM ⟨hR, hK⟩
  obtain ⟨A0, A1, A2, A3, A4, c0, c1, c2, c3, c4, rfl, hG⟩ := kGram_open hR
  repeat' (first | refine e_nil ?_ | ((refine e_op ?_); (first | refine o_n (peval_sound rfl) rfl ?_ | refine o_n (nl rfl rfl tc rfl) rfl ?_ | refine o_box rfl rfl (fun _ => ?_))) | refine s_seq ?_ | refine s_region ?_)
  rename_i b2
  refine e_op (o_call (check24_w _ g Ak ck w) rfl .nil (Can.and (Can.ro hR) (Can.ro hK)) rfl ?_)
  rintro v V ⟨rfl, rfl⟩
  simp only [List.nil_append]
  repeat' (first | refine e_nil ?_ | ((refine e_op ?_); (refine o_n (peval_sound rfl) rfl ?_)) | refine s_seq ?_ | refine s_region ?_)
  by_cases he : chkE g w = 0
  · rw [show (chkE g w != 0) = false by simp [he]]
    have hce : checkE g = 0 := by
      unfold chkE at he
      split at he
      · assumption
      · rename_i h; simpa using h
    have hlw : w.length ≤ 60 := by
      unfold chkE at he
      rw [if_neg (by simp [hce])] at he
      split at he
      · omega
      · omega
    have hS := gSm hce
    repeat' (first | refine e_nil ?_ | ((refine e_op ?_); (first | refine o_n (peval_sound rfl) rfl ?_ | refine o_n (nl rfl rfl tc rfl) rfl ?_ | refine o_box rfl rfl (fun _ => ?_))) | refine s_seq ?_ | refine s_region ?_ | refine s_block ?_ | refine s_skip ?_ | refine s_false rfl ?_)
    rename_i bc
    refine s_weak (fr' := [(20, .int .i64 0), (7, ptrN bc), (4, .pointer none), (5, .int .i64 0), (1, .slice Ak w.length ck)]) (V := [blk bc 66 (chI [.slice A0 g.Terms.length c0, .slice A1 g.Levels.length c1, .slice A2 g.Pats.length c2, .slice A3 g.Nons.length c3, .slice A4 g.Prods.length c4] (.slice Ak w.length ck) []), bun (([] : List Nat).map fun b => mpA b [])]) ?_ ?_ ?_
    · repeat' (first | exact Sub.nil _ | refine Sub.cons rfl ?_)
    · exact Ent.tak .z (Ent.wk (ent_bun (L := [])))
    skip
    refine s_loopK (ι := {bs : List Nat // bs.length ≤ 61}) [7, 4, 5, 1] rfl ⟨[], by simp⟩ (fun bs => [(20, .int .i64 bs.1.length)])
      (fun bs => [blk bc 66 (chI [.slice A0 g.Terms.length c0, .slice A1 g.Levels.length c1, .slice A2 g.Pats.length c2, .slice A3 g.Nons.length c3, .slice A4 g.Prods.length c4] (.slice Ak w.length ck) bs.1), bun (bs.1.map fun b => mpA b [])]) (fun bs => 61 - bs.1.length) ?_ (Ent.refl _) ?_
    · repeat' (first | exact Sub.nil _ | refine Sub.cons rfl ?_)
    rintro ⟨bs, hbl⟩
    simp only at hbl ⊢
    repeat' (first | refine e_nil ?_ | ((refine e_op ?_); (refine o_n (peval_sound rfl) rfl ?_)) | refine s_seq ?_ | refine s_region ?_)
    by_cases hb61 : bs.length < 61
    · rw [decide_eq_true (by omega : (bs.length : Int) < 61)]
      repeat' (first | refine e_nil ?_ | ((refine e_op ?_); (refine o_n (peval_sound rfl) rfl ?_)) | refine s_seq ?_ | refine s_region ?_ | refine s_block ?_ | refine s_skip ?_ | refine s_true rfl ?_)
      refine e_op (o_newMapS enc3 rfl (fun bm => ?_))
      repeat' (((refine e_op ?_); (refine o_n (peval_sound rfl) rfl ?_)))
      refine e_op (o_n (n_indexA rfl rfl rfl rfl bs.length rfl hb61) rfl ?_)
      refine e_op (o_storeC rfl rfl rfl rfl tc uc rfl rfl ?_ ?_)
      · rw [chI_len rfl hbl]
        exact Nat.ble_eq_true_of_le (by show 0 + 67 + bs.length * 1 + 1 ≤ 128; omega)
      have hset := chI_set (gs := [.slice A0 g.Terms.length c0, .slice A1 g.Levels.length c1, .slice A2 g.Pats.length c2, .slice A3 g.Nons.length c3, .slice A4 g.Prods.length c4]) (K := .slice Ak w.length ck) rfl hb61 (o := 0 + 67 + bs.length * 1) (by omega) bm
      have hw1 : IntKind.i64.wrap ((bs.length : Int) + 1) = ((bs.length + 1 : Nat) : Int) := by rw [wrap_i64] <;> omega
      repeat' (first | refine e_nil ?_ | ((refine e_op ?_); (refine o_n (peval_sound rfl) rfl ?_)) | refine s_region ?_ | refine s_end ?_)
      rw [hw1]
      refine s_back ⟨⟨bs ++ [bm], by rw [List.length_append, List.length_singleton]; omega⟩, by simp only [List.length_append, List.length_singleton]; omega, ?_, ?_⟩
      · simp only [List.length_append, List.length_singleton]
        repeat' (first | exact Sub.nil _ | refine Sub.cons rfl ?_)
      · simp only [List.map_append, List.map_cons, List.map_nil]
        rw [← hset]
        exact Ent.tak (.s .z) (Ent.trans ent_bunSnoc (Ent.refl _))
    · rw [decide_eq_false (by omega : ¬ (bs.length : Int) < 61)]
      have hb : bs.length = 61 := by omega
      repeat' (first | ((refine e_op ?_); (refine o_n (peval_sound rfl) rfl ?_)) | refine s_seq ?_ | refine s_region ?_ | refine s_exit ?_ | refine s_false rfl ?_ | refine x_hit ?_ | refine x_code ?_ | refine x_back ?_)
      rw [chI_end hb, mp0 hb]
      have hN0 : ChN [.slice A0 g.Terms.length c0, .slice A1 g.Levels.length c1, .slice A2 g.Pats.length c2, .slice A3 g.Nons.length c3, .slice A4 g.Prods.length c4] hc0 R0_ bs := ⟨rfl, List.length_replicate, List.length_replicate, hb⟩
      refine e_ent (V := [blk bc 66 (chC [.slice A0 g.Terms.length c0, .slice A1 g.Levels.length c1, .slice A2 g.Pats.length c2, .slice A3 g.Nons.length c3, .slice A4 g.Prods.length c4] (.slice Ak w.length ck) hc0 R0_ bs), chR hc0 R0_, chM bs R0_]) (Ent.cons ((ent_bnil (f := encEs) (sz := 3) (ei := 68) rfl 61))) ?_
      refine e_op (o_call (add_w bc [.slice A0 g.Terms.length c0, .slice A1 g.Levels.length c1, .slice A2 g.Pats.length c2, .slice A3 g.Nons.length c3, .slice A4 g.Prods.length c4] (.slice Ak w.length ck) hc0 R0_ bs hN0 0 (by simp) ⟨0, 0, 0⟩ (by simp)) rfl (.cons .z (.cons .z (.cons .z .nil))) Can.tt rfl ?_)
      rintro v V ⟨hcs4, rfl, hh4, rfl⟩
      simp only [List.cons_append, List.nil_append]
      have hw1 : IntKind.i64.wrap ((w.length : Int) + 1) = ((w.length + 1 : Nat) : Int) := by rw [wrap_i64] <;> omega
      repeat' (first | refine e_nil ?_ | ((refine e_op ?_); (refine o_n (peval_sound rfl) rfl ?_)) | refine s_seq ?_ | refine s_region ?_ | refine s_block ?_)
      rw [hw1]
      refine s_loopK (ι := {z : Nat × AcL × List (List EI) // z.1 ≤ w.length + 1 ∧ ChN [.slice A0 g.Terms.length c0, .slice A1 g.Levels.length c1, .slice A2 g.Pats.length c2, .slice A3 g.Nons.length c3, .slice A4 g.Prods.length c4] z.2.1 z.2.2 bs ∧ RowI g w z.2.2 z.1 0}) [35, 7, 4, 5, 1] rfl ⟨(0, hcs4, addR R0_ 0 ⟨0, 0, 0⟩), Nat.zero_le _, ⟨rfl, hh4, by rw [addR_len]; exact List.length_replicate, hb⟩, row0 g w⟩ (fun z => [(36, .int .i64 z.1.1)])
        (fun z => [blk bc 66 (chC [.slice A0 g.Terms.length c0, .slice A1 g.Levels.length c1, .slice A2 g.Pats.length c2, .slice A3 g.Nons.length c3, .slice A4 g.Prods.length c4] (.slice Ak w.length ck) z.1.2.1 z.1.2.2 bs), chR z.1.2.1 z.1.2.2, chM bs z.1.2.2]) (fun z => w.length + 1 - z.1.1) ?_ (Ent.refl _) ?_
      · repeat' (first | exact Sub.nil _ | refine Sub.cons rfl ?_)
      rintro ⟨⟨n, hcs, R⟩, hn, hN, hI⟩
      simp only at hn hN hI ⊢
      repeat' (first | refine e_nil ?_ | ((refine e_op ?_); (refine o_n (peval_sound rfl) rfl ?_)) | refine s_seq ?_ | refine s_region ?_)
      by_cases hnl : n < w.length + 1
      · rw [decide_eq_true (by omega : (n : Int) < ((w.length + 1 : Nat) : Int))]
        have hw3 : IntKind.i64.wrap ((n : Int) + 1) = ((n + 1 : Nat) : Int) := by rw [wrap_i64] <;> omega
        repeat' (first | refine e_nil ?_ | ((refine e_op ?_); (refine o_n (peval_sound rfl) rfl ?_)) | refine s_seq ?_ | refine s_region ?_ | refine s_block ?_ | refine s_skip ?_ | refine s_true rfl ?_)
        refine e_op (o_call (row_w bc A0 A1 A2 A3 A4 c0 c1 c2 c3 c4 Ak ck hcs R bs g w hN n (by omega) hlw hS hI) rfl (.cons .z (.cons .z (.cons .z .nil))) (Can.and (Can.ro hR) (Can.ro hK)) rfl ?_)
        rintro v V ⟨hcs', R', rfl, hN', hI', rfl⟩
        simp only [List.cons_append, List.nil_append]
        repeat' (first | refine e_nil ?_ | ((refine e_op ?_); (refine o_n (peval_sound rfl) rfl ?_)) | refine s_region ?_ | refine s_end ?_)
        rw [hw3]
        refine s_back ⟨⟨(n + 1, hcs', R'), hnl, hN', hI'⟩, by simp only; omega, ?_, Ent.refl _⟩
        repeat' (first | exact Sub.nil _ | refine Sub.cons rfl ?_)
      · rw [decide_eq_false (by omega : ¬ (n : Int) < ((w.length + 1 : Nat) : Int))]
        obtain rfl : n = w.length + 1 := by omega
        repeat' (first | refine e_nil ?_ | ((refine e_op ?_); (refine o_n (peval_sound rfl) rfl ?_)) | refine s_seq ?_ | refine s_region ?_ | refine s_exit ?_ | refine s_false rfl ?_ | refine x_hit ?_ | refine x_code ?_ | refine x_back ?_)
        exact s_ret ⟨_, _, res2 rfl rfl rfl, .inr ⟨he, bc, hcs, R, bs, rfl, hN, hI, rfl⟩, Ent.refl _⟩
  · rw [show (chkE g w != 0) = true by simp [he]]
    repeat' (first | refine e_nil ?_ | ((refine e_op ?_); (refine o_n (peval_sound rfl) rfl ?_)) | refine s_seq ?_ | refine s_region ?_ | refine s_true rfl ?_)
    exact s_ret ⟨_, _, res2 rfl rfl rfl, .inl ⟨he, rfl, rfl⟩, Ent.nil _⟩

end Go.Proofs.Ytjeimmekhfhepaa

namespace Go.Proofs.Ytjeimmekhfhepaa
set_option linter.all false
open Go.Proofs.Ytjeimmekhfhepaa.E

attribute [local irreducible] EVX EVO EVL EV1 NEV
attribute [local irreducible] own osl exA rdA rdL
attribute [local irreducible] bldA mapA bun mapS nums iterA
set_option maxRecDepth 10000
set_option maxHeartbeats 4000000

theorem derives_w (cs : List Value) (g : Gram) (Ak : Option Addr) (ck : Nat) (w : List Int) :
    Trip Try.prog 10 [.agg cs.toArray, .slice Ak w.length ck] ((kGram.rd cs g).and ((kslice 8 kint).rd [.slice Ak w.length ck] w)) []
      (fun v V => ∃ b, v = .tuple #[.bool b, .int .i64 (chkE g w)] ∧ (b = true ↔ chkE g w = 0 ∧ Ein g w w.length ⟨0, 1, 0⟩) ∧ V = []) := by
  refine trip Try.tabOk Try.func10 rfl rfl rfl rfl ?_
  rintro wd SM ⟨hR, hK⟩
  obtain ⟨A0, A1, A2, A3, A4, c0, c1, c2, c3, c4, rfl, hG⟩ := kGram_open hR
  repeat' (first | refine e_nil ?_ | ((refine e_op ?_); (first | refine o_n (peval_sound rfl) rfl ?_ | refine o_n (nl rfl rfl tc rfl) rfl ?_ | refine o_box rfl rfl (fun _ => ?_))) | refine s_seq ?_ | refine s_region ?_)
  rename_i b2
  refine e_op (o_call (chart_w _ g Ak ck w) rfl .nil (Can.and (Can.ro hR) (Can.ro hK)) rfl ?_)
  rintro v V (⟨hne, rfl, rfl⟩ | ⟨he, bc, hcs, R, bs, rfl, hN, hI, rfl⟩)
  · simp only [List.nil_append]
    repeat' (first | refine e_nil ?_ | ((refine e_op ?_); (refine o_n (peval_sound rfl) rfl ?_)) | refine s_seq ?_ | refine s_region ?_)
    rw [show (chkE g w != 0) = true by simp [hne]]
    repeat' (first | refine e_nil ?_ | ((refine e_op ?_); (refine o_n (peval_sound rfl) rfl ?_)) | refine s_seq ?_ | refine s_region ?_ | refine s_true rfl ?_)
    exact s_ret ⟨_, _, res2 rfl rfl rfl, ⟨false, rfl, ⟨fun h => (by cases h), fun h => absurd h.1 hne⟩, rfl⟩, Ent.nil _⟩
  · simp only [List.cons_append, List.nil_append]
    have hlw : w.length ≤ 60 := by
      unfold chkE at he
      split at he
      · omega
      · split at he
        · omega
        · omega
    have hce : checkE g = 0 := by
      unfold chkE at he
      split at he
      · assumption
      · rename_i h; simpa using h
    have hS := gSm hce
    have hn61 : w.length < 61 := by omega
    have hnR : w.length < R.length := by rw [hN.r]; exact hn61
    have hnb : w.length < bs.length := by rw [hN.b]; exact hn61
    have hbl : bs.length = R.length := by rw [hN.b, hN.r]
    have hgd : rw_ R w.length = R[w.length] := by show R.getD _ [] = _; rw [List.getD_eq_getElem?_getD, List.getElem?_eq_getElem hnR]; rfl
    have hmg := mpL_get hbl hnR
    repeat' (first | refine e_nil ?_ | ((refine e_op ?_); (refine o_n (peval_sound rfl) rfl ?_)) | refine s_seq ?_ | refine s_region ?_ | refine s_skip ?_ | refine s_false rfl ?_)
    refine e_op (o_n (n_indexA rfl rfl rfl rfl w.length rfl hn61) rfl ?_)
    refine e_op (o_n (nl rfl rfl tc (chC_map hN hnb (by show 0 + 67 + w.length * 1 = 67 + w.length; omega))) rfl ?_)
    repeat' (((refine e_op ?_); (refine o_n (peval_sound rfl) rfl ?_)))
    refine e_op (o_n (NEV.weak (Ent.trans (Ent.tak (TakA.tak (A := chM bs R)) (Ent.refl _)) ((ent_bunAt hmg).trans ent_mapS)) (n_lookup (z := .bool false) (k := keyE ⟨0, 1, 0⟩) rfl mkey68 (fun w => by kernel_rfl) rfl rfl rfl .z)) rfl ?_)
    rw [look_mpE]
    have hiff := hI.all hS.n0 (Nat.le_refl _) (x := ⟨0, 1, 0⟩)
    rw [hgd] at hiff
    by_cases hm : (⟨0, 1, 0⟩ : EI) ∈ R[w.length]
    · rw [if_pos hm]
      repeat' (first | refine e_nil ?_ | ((refine e_op ?_); (refine o_n (peval_sound rfl) rfl ?_)))
      exact s_ret ⟨_, _, res2 rfl rfl rfl, ⟨true, by rw [he]; rfl, ⟨fun _ => ⟨he, hiff.1 hm⟩, fun _ => rfl⟩, rfl⟩, Ent.nil _⟩
    · rw [if_neg hm]
      repeat' (first | refine e_nil ?_ | ((refine e_op ?_); (refine o_n (peval_sound rfl) rfl ?_)))
      exact s_ret ⟨_, _, res2 rfl rfl rfl, ⟨false, by rw [he]; rfl, ⟨fun h => (by cases h), fun h => absurd (hiff.2 h.2) hm⟩, rfl⟩, Ent.nil _⟩

theorem viable_w (cs : List Value) (g : Gram) (Ak : Option Addr) (ck : Nat) (w : List Int) :
    Trip Try.prog 11 [.agg cs.toArray, .slice Ak w.length ck] ((kGram.rd cs g).and ((kslice 8 kint).rd [.slice Ak w.length ck] w)) []
      (fun v V => ∃ b, v = .tuple #[.bool b, .int .i64 (chkE g w)] ∧ (b = true ↔ chkE g w = 0 ∧ ∃ x, Ein g w w.length x) ∧ V = []) := by
  refine trip Try.tabOk Try.func11 rfl rfl rfl rfl ?_
  rintro wd SM ⟨hR, hK⟩
  obtain ⟨A0, A1, A2, A3, A4, c0, c1, c2, c3, c4, rfl, hG⟩ := kGram_open hR
  repeat' (first | refine e_nil ?_ | ((refine e_op ?_); (first | refine o_n (peval_sound rfl) rfl ?_ | refine o_n (nl rfl rfl tc rfl) rfl ?_ | refine o_box rfl rfl (fun _ => ?_))) | refine s_seq ?_ | refine s_region ?_)
  rename_i b2
  refine e_op (o_call (chart_w _ g Ak ck w) rfl .nil (Can.and (Can.ro hR) (Can.ro hK)) rfl ?_)
  rintro v V (⟨hne, rfl, rfl⟩ | ⟨he, bc, hcs, R, bs, rfl, hN, hI, rfl⟩)
  · simp only [List.nil_append]
    repeat' (first | refine e_nil ?_ | ((refine e_op ?_); (refine o_n (peval_sound rfl) rfl ?_)) | refine s_seq ?_ | refine s_region ?_)
    rw [show (chkE g w != 0) = true by simp [hne]]
    repeat' (first | refine e_nil ?_ | ((refine e_op ?_); (refine o_n (peval_sound rfl) rfl ?_)) | refine s_seq ?_ | refine s_region ?_ | refine s_true rfl ?_)
    exact s_ret ⟨_, _, res2 rfl rfl rfl, ⟨false, rfl, ⟨fun h => (by cases h), fun h => absurd h.1 hne⟩, rfl⟩, Ent.nil _⟩
  · simp only [List.cons_append, List.nil_append]
    have hlw : w.length ≤ 60 := by
      unfold chkE at he
      split at he
      · omega
      · split at he
        · omega
        · omega
    have hce : checkE g = 0 := by
      unfold chkE at he
      split at he
      · assumption
      · rename_i h; simpa using h
    have hS := gSm hce
    have hn61 : w.length < 61 := by omega
    have hnR : w.length < R.length := by rw [hN.r]; exact hn61
    have hgd : rw_ R w.length = R[w.length] := by show R.getD _ [] = _; rw [List.getD_eq_getElem?_getD, List.getElem?_eq_getElem hnR]; rfl
    repeat' (first | refine e_nil ?_ | ((refine e_op ?_); (refine o_n (peval_sound rfl) rfl ?_)) | refine s_seq ?_ | refine s_region ?_ | refine s_skip ?_ | refine s_false rfl ?_)
    refine e_op (o_n (n_indexA rfl rfl rfl rfl w.length rfl hn61) rfl ?_)
    refine e_op (o_n (nl rfl rfl tc (chC_row hN hnR (by show 0 + 6 + w.length * 1 = 6 + w.length; omega))) rfl ?_)
    repeat' (first | refine e_nil ?_ | ((refine e_op ?_); (refine o_n (peval_sound rfl) rfl ?_)))
    refine s_ret ⟨_, _, res2 rfl rfl rfl, ⟨_, by rw [he], ?_, rfl⟩, Ent.nil _⟩
    rw [decide_eq_true_eq]
    constructor
    · intro h
      refine ⟨he, R[w.length][0]'(by omega), ?_⟩
      rw [← hI.all hS.n0 (Nat.le_refl _), hgd]
      exact List.getElem_mem _
    · rintro ⟨_, x, hx⟩
      have := (hI.all hS.n0 (Nat.le_refl _)).2 hx
      rw [hgd] at this
      have := List.length_pos_of_mem this
      omega

end Go.Proofs.Ytjeimmekhfhepaa

namespace Go.Proofs.Ytjeimmekhfhepaa
set_option linter.all false
open Go.Proofs.Ytjeimmekhfhepaa.E

abbrev zL : Lev := ⟨0, 0⟩
abbrev emS : ByteArray := ⟨#[]⟩
abbrev emP (l : Int) (r : List Int) : Prd := ⟨l, r, zL⟩

abbrev WT := List ((Nat × Nat × Nat) × Nat)
def tabF (T : WT) : Ws := fun a i j => ((T.find? fun p => decide (p.1 = (a, i, j))).map (·.2)).getD 0
def fixB (g : Gram) (w : List Int) (T : WT) : Bool := (List.range g.Nons.length).all fun a => (List.range (w.length + 1)).all fun i => (List.range (w.length + 1)).all fun j => Nat.ble (cap (sumW g w (tabF T) a i j g.Prods.length)) (tabF T a i j)
def layB (g : Gram) (w : List Int) (T T' : WT) : Bool := T'.all fun p => Nat.ble p.1.2.1 w.length && (Nat.ble p.1.2.2 w.length && Nat.ble p.2 (cap (sumW g w (tabF T) p.1.1 p.1.2.1 p.1.2.2 g.Prods.length)))
def laysB (g : Gram) (w : List Int) : WT → List WT → Bool
  | _, [] => true
  | T, T' :: L => layB g w T T' && laysB g w T' L
section
variable {g : Gram} {w : List Int}
theorem sumW_out {W : Ws} {a i j : Nat} (h : ∀ q, q < g.Prods.length → lhs g q ≠ (a : Int)) : ∀ n, n ≤ g.Prods.length → sumW g w W a i j n = 0
  | 0, _ => rfl
  | n + 1, hn => by unfold sumW; rw [sumW_out h n (by omega), if_neg (h n (by omega))]
theorem fixB_fix (hS : GSm g) {T : WT} (h : fixB g w T = true) : FixW g w (tabF T) := fun a i j hi hj => by
  by_cases ha : a < g.Nons.length
  · have h1 := List.all_eq_true.1 h a (List.mem_range.2 ha)
    have h2 := List.all_eq_true.1 h1 i (List.mem_range.2 (by omega))
    have h3 := List.all_eq_true.1 h2 j (List.mem_range.2 (by omega))
    exact Nat.le_of_ble_eq_true h3
  · rw [sumW_out (fun q hq => by have := hS.ll q hq; omega) _ (Nat.le_refl _)]
    exact Nat.zero_le _
theorem tabF_mem {T : WT} {a i j : Nat} : tabF T a i j = 0 ∨ ((a, i, j), tabF T a i j) ∈ T := by
  unfold tabF
  cases hf : T.find? (fun p => decide (p.1 = (a, i, j))) with
  | none => exact .inl rfl
  | some p =>
    right
    have h1 := List.mem_of_find?_eq_some hf
    have h2 := List.find?_some hf
    simp only [decide_eq_true_eq] at h2
    show ((a, i, j), p.2) ∈ T
    rw [← h2]; exact h1
theorem lay_le {F : Ws} (hF : FixW g w F) {T T' : WT} (h0 : LeW (tabF T) F) (h : layB g w T T' = true) : LeW (tabF T') F := fun a i j => by
  rcases tabF_mem (T := T') (a := a) (i := i) (j := j) with e | e
  · rw [e]; exact Nat.zero_le _
  · have h1 := List.all_eq_true.1 h _ e
    simp only [Bool.and_eq_true] at h1
    obtain ⟨h2, h3, h4⟩ := h1
    have h2 := Nat.le_of_ble_eq_true h2
    have h3 := Nat.le_of_ble_eq_true h3
    have h4 := Nat.le_of_ble_eq_true h4
    have h5 := sum_mono (g := g) (w := w) h0 a i j g.Prods.length
    have h6 := hF a i j h2 h3
    exact Nat.le_trans h4 (Nat.le_trans (cap_mono h5) h6)
theorem lays_le {F : Ws} (hF : FixW g w F) : ∀ {L : List WT} {T : WT}, LeW (tabF T) F → laysB g w T L = true → LeW (tabF (L.getLast?.getD T)) F
  | [], _, h0, _ => h0
  | T' :: L, T, h0, h => by
    unfold laysB at h
    rw [Bool.and_eq_true] at h
    have := lays_le hF (lay_le hF h0 h.1) h.2
    rw [List.getLast?_cons]
    exact this
/-- Counted by hand. -/
theorem ways_eq (hS : GSm g) {W : Ws} (hW : DoneW g w W) {T : WT} (hT : fixB g w T = true) {L : List WT} (hL : laysB g w [] L = true) (a i j : Nat) (hlast : L.getLast?.getD [] = T := by rfl) : W a i j = tabF T a i j := by
  have h1 : LeW W (tabF T) := by
    obtain ⟨⟨n, rfl⟩, _⟩ := hW
    have hF := fixB_fix hS hT
    have : ∀ n, LeW (itW g w n) (tabF T) := fun n => by
      induction n with
      | zero => exact fun _ _ _ => Nat.zero_le _
      | succ n ih => exact to_more (Mre.refl g) hF _ (Nat.le_refl _) ih
    exact this n
  have h2 : LeW (tabF T) W := by
    have := lays_le (fix_of hW.2) (T := []) (L := L) (fun a i j => Nat.zero_le _) hL
    rw [hlast] at this; exact this
  exact Nat.le_antisymm (h1 a i j) (h2 a i j)
theorem not_viable {R : List (List EI)} {n : Nat} (h : shutC g w R = true) (h0 : R.getD n [] = []) : ¬ ∃ x, Ein g w n x := fun ⟨x, hx⟩ => by
  have := shut_all h hx
  rw [h0] at this; cases this
end

def gSu : Gram := ⟨List.replicate 3 emS, List.replicate 3 zL, [], List.replicate 2 emS, [emP 0 [4], emP 1 [4, 2, 4], emP 1 [1]]⟩
theorem gSu_chk : checkE gSu = 0 := by decide +kernel
def gLo : Gram := ⟨List.replicate 2 emS, List.replicate 2 zL, [], List.replicate 2 emS, [emP 0 [3], emP 1 [3], emP 1 [1]]⟩
theorem gLo_chk : checkE gLo = 0 := by decide +kernel
def gTw : Gram := ⟨List.replicate 2 emS, List.replicate 2 zL, [], List.replicate 3 emS, [emP 0 [3], emP 1 [4, 4], emP 2 [1], emP 2 []]⟩
theorem gTw_chk : checkE gTw = 0 := by decide +kernel
def gNe : Gram := ⟨List.replicate 3 emS, List.replicate 3 zL, [], List.replicate 2 emS, [emP 0 [4], emP 1 [1, 4, 2], emP 1 []]⟩
theorem gNe_chk : checkE gNe = 0 := by decide +kernel
theorem gSu_w121 {W : Ws} (h : DoneW gSu [1, 2, 1] W) : W 0 0 3 = 1 := ways_eq (gSm gSu_chk) h (T := [((0, 0, 1), 1), ((0, 0, 3), 1), ((0, 2, 3), 1), ((1, 0, 1), 1), ((1, 0, 3), 1), ((1, 2, 3), 1)]) (by decide +kernel) (L := [[((1, 0, 1), 1), ((1, 2, 3), 1)], [((0, 0, 1), 1), ((0, 2, 3), 1), ((1, 0, 1), 1), ((1, 0, 3), 1), ((1, 2, 3), 1)], [((0, 0, 1), 1), ((0, 0, 3), 1), ((0, 2, 3), 1), ((1, 0, 1), 1), ((1, 0, 3), 1), ((1, 2, 3), 1)]]) (by decide +kernel) 0 0 3
theorem gSu_w12 {W : Ws} (h : DoneW gSu [1, 2] W) : W 0 0 2 = 0 := ways_eq (gSm gSu_chk) h (T := [((0, 0, 1), 1), ((1, 0, 1), 1)]) (by decide +kernel) (L := [[((1, 0, 1), 1)], [((0, 0, 1), 1), ((1, 0, 1), 1)]]) (by decide +kernel) 0 0 2
theorem gSu_w11 {W : Ws} (h : DoneW gSu [1, 1] W) : W 0 0 2 = 0 := ways_eq (gSm gSu_chk) h (T := [((0, 0, 1), 1), ((0, 1, 2), 1), ((1, 0, 1), 1), ((1, 1, 2), 1)]) (by decide +kernel) (L := [[((1, 0, 1), 1), ((1, 1, 2), 1)], [((0, 0, 1), 1), ((0, 1, 2), 1), ((1, 0, 1), 1), ((1, 1, 2), 1)]]) (by decide +kernel) 0 0 2
theorem gSu_w1 {W : Ws} (h : DoneW gSu [1] W) : W 0 0 1 = 1 := ways_eq (gSm gSu_chk) h (T := [((0, 0, 1), 1), ((1, 0, 1), 1)]) (by decide +kernel) (L := [[((1, 0, 1), 1)], [((0, 0, 1), 1), ((1, 0, 1), 1)]]) (by decide +kernel) 0 0 1
theorem gSu_w12121 {W : Ws} (h : DoneW gSu [1, 2, 1, 2, 1] W) : W 0 0 5 = 2 := ways_eq (gSm gSu_chk) h (T := [((0, 0, 1), 1), ((0, 0, 3), 1), ((0, 0, 5), 2), ((0, 2, 3), 1), ((0, 2, 5), 1), ((0, 4, 5), 1), ((1, 0, 1), 1), ((1, 0, 3), 1), ((1, 0, 5), 2), ((1, 2, 3), 1), ((1, 2, 5), 1), ((1, 4, 5), 1)]) (by decide +kernel) (L := [[((1, 0, 1), 1), ((1, 2, 3), 1), ((1, 4, 5), 1)], [((0, 0, 1), 1), ((0, 2, 3), 1), ((0, 4, 5), 1), ((1, 0, 1), 1), ((1, 0, 3), 1), ((1, 2, 3), 1), ((1, 2, 5), 1), ((1, 4, 5), 1)], [((0, 0, 1), 1), ((0, 0, 3), 1), ((0, 2, 3), 1), ((0, 2, 5), 1), ((0, 4, 5), 1), ((1, 0, 1), 1), ((1, 0, 3), 1), ((1, 0, 5), 2), ((1, 2, 3), 1), ((1, 2, 5), 1), ((1, 4, 5), 1)], [((0, 0, 1), 1), ((0, 0, 3), 1), ((0, 0, 5), 2), ((0, 2, 3), 1), ((0, 2, 5), 1), ((0, 4, 5), 1), ((1, 0, 1), 1), ((1, 0, 3), 1), ((1, 0, 5), 2), ((1, 2, 3), 1), ((1, 2, 5), 1), ((1, 4, 5), 1)]]) (by decide +kernel) 0 0 5
theorem gSu_we {W : Ws} (h : DoneW gSu [] W) : W 0 0 0 = 0 := ways_eq (gSm gSu_chk) h (T := []) (by decide +kernel) (L := []) (by decide +kernel) 0 0 0
theorem gLo_w1 {W : Ws} (h : DoneW gLo [1] W) : W 0 0 1 = 2 := ways_eq (gSm gLo_chk) h (T := [((0, 0, 1), 2), ((1, 0, 1), 2)]) (by decide +kernel) (L := [[((1, 0, 1), 1)], [((0, 0, 1), 1), ((1, 0, 1), 2)], [((0, 0, 1), 2), ((1, 0, 1), 2)]]) (by decide +kernel) 0 0 1
theorem gLo_we {W : Ws} (h : DoneW gLo [] W) : W 0 0 0 = 0 := ways_eq (gSm gLo_chk) h (T := []) (by decide +kernel) (L := []) (by decide +kernel) 0 0 0
theorem gTw_we {W : Ws} (h : DoneW gTw [] W) : W 0 0 0 = 1 := ways_eq (gSm gTw_chk) h (T := [((0, 0, 0), 1), ((1, 0, 0), 1), ((2, 0, 0), 1)]) (by decide +kernel) (L := [[((2, 0, 0), 1)], [((1, 0, 0), 1), ((2, 0, 0), 1)], [((0, 0, 0), 1), ((1, 0, 0), 1), ((2, 0, 0), 1)]]) (by decide +kernel) 0 0 0
theorem gTw_w1 {W : Ws} (h : DoneW gTw [1] W) : W 0 0 1 = 2 := ways_eq (gSm gTw_chk) h (T := [((0, 0, 0), 1), ((0, 0, 1), 2), ((0, 1, 1), 1), ((1, 0, 0), 1), ((1, 0, 1), 2), ((1, 1, 1), 1), ((2, 0, 0), 1), ((2, 0, 1), 1), ((2, 1, 1), 1)]) (by decide +kernel) (L := [[((2, 0, 0), 1), ((2, 0, 1), 1), ((2, 1, 1), 1)], [((1, 0, 0), 1), ((1, 0, 1), 2), ((1, 1, 1), 1), ((2, 0, 0), 1), ((2, 0, 1), 1), ((2, 1, 1), 1)], [((0, 0, 0), 1), ((0, 0, 1), 2), ((0, 1, 1), 1), ((1, 0, 0), 1), ((1, 0, 1), 2), ((1, 1, 1), 1), ((2, 0, 0), 1), ((2, 0, 1), 1), ((2, 1, 1), 1)]]) (by decide +kernel) 0 0 1
theorem gTw_w11 {W : Ws} (h : DoneW gTw [1, 1] W) : W 0 0 2 = 1 := ways_eq (gSm gTw_chk) h (T := [((0, 0, 0), 1), ((0, 0, 1), 2), ((0, 0, 2), 1), ((0, 1, 1), 1), ((0, 1, 2), 2), ((0, 2, 2), 1), ((1, 0, 0), 1), ((1, 0, 1), 2), ((1, 0, 2), 1), ((1, 1, 1), 1), ((1, 1, 2), 2), ((1, 2, 2), 1), ((2, 0, 0), 1), ((2, 0, 1), 1), ((2, 1, 1), 1), ((2, 1, 2), 1), ((2, 2, 2), 1)]) (by decide +kernel) (L := [[((2, 0, 0), 1), ((2, 0, 1), 1), ((2, 1, 1), 1), ((2, 1, 2), 1), ((2, 2, 2), 1)], [((1, 0, 0), 1), ((1, 0, 1), 2), ((1, 0, 2), 1), ((1, 1, 1), 1), ((1, 1, 2), 2), ((1, 2, 2), 1), ((2, 0, 0), 1), ((2, 0, 1), 1), ((2, 1, 1), 1), ((2, 1, 2), 1), ((2, 2, 2), 1)], [((0, 0, 0), 1), ((0, 0, 1), 2), ((0, 0, 2), 1), ((0, 1, 1), 1), ((0, 1, 2), 2), ((0, 2, 2), 1), ((1, 0, 0), 1), ((1, 0, 1), 2), ((1, 0, 2), 1), ((1, 1, 1), 1), ((1, 1, 2), 2), ((1, 2, 2), 1), ((2, 0, 0), 1), ((2, 0, 1), 1), ((2, 1, 1), 1), ((2, 1, 2), 1), ((2, 2, 2), 1)]]) (by decide +kernel) 0 0 2
theorem gTw_w111 {W : Ws} (h : DoneW gTw [1, 1, 1] W) : W 0 0 3 = 0 := ways_eq (gSm gTw_chk) h (T := [((0, 0, 0), 1), ((0, 0, 1), 2), ((0, 0, 2), 1), ((0, 1, 1), 1), ((0, 1, 2), 2), ((0, 1, 3), 1), ((0, 2, 2), 1), ((0, 2, 3), 2), ((0, 3, 3), 1), ((1, 0, 0), 1), ((1, 0, 1), 2), ((1, 0, 2), 1), ((1, 1, 1), 1), ((1, 1, 2), 2), ((1, 1, 3), 1), ((1, 2, 2), 1), ((1, 2, 3), 2), ((1, 3, 3), 1), ((2, 0, 0), 1), ((2, 0, 1), 1), ((2, 1, 1), 1), ((2, 1, 2), 1), ((2, 2, 2), 1), ((2, 2, 3), 1), ((2, 3, 3), 1)]) (by decide +kernel) (L := [[((2, 0, 0), 1), ((2, 0, 1), 1), ((2, 1, 1), 1), ((2, 1, 2), 1), ((2, 2, 2), 1), ((2, 2, 3), 1), ((2, 3, 3), 1)], [((1, 0, 0), 1), ((1, 0, 1), 2), ((1, 0, 2), 1), ((1, 1, 1), 1), ((1, 1, 2), 2), ((1, 1, 3), 1), ((1, 2, 2), 1), ((1, 2, 3), 2), ((1, 3, 3), 1), ((2, 0, 0), 1), ((2, 0, 1), 1), ((2, 1, 1), 1), ((2, 1, 2), 1), ((2, 2, 2), 1), ((2, 2, 3), 1), ((2, 3, 3), 1)], [((0, 0, 0), 1), ((0, 0, 1), 2), ((0, 0, 2), 1), ((0, 1, 1), 1), ((0, 1, 2), 2), ((0, 1, 3), 1), ((0, 2, 2), 1), ((0, 2, 3), 2), ((0, 3, 3), 1), ((1, 0, 0), 1), ((1, 0, 1), 2), ((1, 0, 2), 1), ((1, 1, 1), 1), ((1, 1, 2), 2), ((1, 1, 3), 1), ((1, 2, 2), 1), ((1, 2, 3), 2), ((1, 3, 3), 1), ((2, 0, 0), 1), ((2, 0, 1), 1), ((2, 1, 1), 1), ((2, 1, 2), 1), ((2, 2, 2), 1), ((2, 2, 3), 1), ((2, 3, 3), 1)]]) (by decide +kernel) 0 0 3
theorem gNe_w1122 {W : Ws} (h : DoneW gNe [1, 1, 2, 2] W) : W 0 0 4 = 1 := ways_eq (gSm gNe_chk) h (T := [((0, 0, 0), 1), ((0, 0, 4), 1), ((0, 1, 1), 1), ((0, 1, 3), 1), ((0, 2, 2), 1), ((0, 3, 3), 1), ((0, 4, 4), 1), ((1, 0, 0), 1), ((1, 0, 4), 1), ((1, 1, 1), 1), ((1, 1, 3), 1), ((1, 2, 2), 1), ((1, 3, 3), 1), ((1, 4, 4), 1)]) (by decide +kernel) (L := [[((1, 0, 0), 1), ((1, 1, 1), 1), ((1, 2, 2), 1), ((1, 3, 3), 1), ((1, 4, 4), 1)], [((0, 0, 0), 1), ((0, 1, 1), 1), ((0, 2, 2), 1), ((0, 3, 3), 1), ((0, 4, 4), 1), ((1, 0, 0), 1), ((1, 1, 1), 1), ((1, 1, 3), 1), ((1, 2, 2), 1), ((1, 3, 3), 1), ((1, 4, 4), 1)], [((0, 0, 0), 1), ((0, 1, 1), 1), ((0, 1, 3), 1), ((0, 2, 2), 1), ((0, 3, 3), 1), ((0, 4, 4), 1), ((1, 0, 0), 1), ((1, 0, 4), 1), ((1, 1, 1), 1), ((1, 1, 3), 1), ((1, 2, 2), 1), ((1, 3, 3), 1), ((1, 4, 4), 1)], [((0, 0, 0), 1), ((0, 0, 4), 1), ((0, 1, 1), 1), ((0, 1, 3), 1), ((0, 2, 2), 1), ((0, 3, 3), 1), ((0, 4, 4), 1), ((1, 0, 0), 1), ((1, 0, 4), 1), ((1, 1, 1), 1), ((1, 1, 3), 1), ((1, 2, 2), 1), ((1, 3, 3), 1), ((1, 4, 4), 1)]]) (by decide +kernel) 0 0 4
theorem gNe_w112 {W : Ws} (h : DoneW gNe [1, 1, 2] W) : W 0 0 3 = 0 := ways_eq (gSm gNe_chk) h (T := [((0, 0, 0), 1), ((0, 1, 1), 1), ((0, 1, 3), 1), ((0, 2, 2), 1), ((0, 3, 3), 1), ((1, 0, 0), 1), ((1, 1, 1), 1), ((1, 1, 3), 1), ((1, 2, 2), 1), ((1, 3, 3), 1)]) (by decide +kernel) (L := [[((1, 0, 0), 1), ((1, 1, 1), 1), ((1, 2, 2), 1), ((1, 3, 3), 1)], [((0, 0, 0), 1), ((0, 1, 1), 1), ((0, 2, 2), 1), ((0, 3, 3), 1), ((1, 0, 0), 1), ((1, 1, 1), 1), ((1, 1, 3), 1), ((1, 2, 2), 1), ((1, 3, 3), 1)], [((0, 0, 0), 1), ((0, 1, 1), 1), ((0, 1, 3), 1), ((0, 2, 2), 1), ((0, 3, 3), 1), ((1, 0, 0), 1), ((1, 1, 1), 1), ((1, 1, 3), 1), ((1, 2, 2), 1), ((1, 3, 3), 1)]]) (by decide +kernel) 0 0 3
theorem gNe_w122 {W : Ws} (h : DoneW gNe [1, 2, 2] W) : W 0 0 3 = 0 := ways_eq (gSm gNe_chk) h (T := [((0, 0, 0), 1), ((0, 0, 2), 1), ((0, 1, 1), 1), ((0, 2, 2), 1), ((0, 3, 3), 1), ((1, 0, 0), 1), ((1, 0, 2), 1), ((1, 1, 1), 1), ((1, 2, 2), 1), ((1, 3, 3), 1)]) (by decide +kernel) (L := [[((1, 0, 0), 1), ((1, 1, 1), 1), ((1, 2, 2), 1), ((1, 3, 3), 1)], [((0, 0, 0), 1), ((0, 1, 1), 1), ((0, 2, 2), 1), ((0, 3, 3), 1), ((1, 0, 0), 1), ((1, 0, 2), 1), ((1, 1, 1), 1), ((1, 2, 2), 1), ((1, 3, 3), 1)], [((0, 0, 0), 1), ((0, 0, 2), 1), ((0, 1, 1), 1), ((0, 2, 2), 1), ((0, 3, 3), 1), ((1, 0, 0), 1), ((1, 0, 2), 1), ((1, 1, 1), 1), ((1, 2, 2), 1), ((1, 3, 3), 1)]]) (by decide +kernel) 0 0 3
theorem gNe_w2 {W : Ws} (h : DoneW gNe [2] W) : W 0 0 1 = 0 := ways_eq (gSm gNe_chk) h (T := [((0, 0, 0), 1), ((0, 1, 1), 1), ((1, 0, 0), 1), ((1, 1, 1), 1)]) (by decide +kernel) (L := [[((1, 0, 0), 1), ((1, 1, 1), 1)], [((0, 0, 0), 1), ((0, 1, 1), 1), ((1, 0, 0), 1), ((1, 1, 1), 1)]]) (by decide +kernel) 0 0 1
theorem gSu_n11 : ¬ ∃ x, Ein gSu [1, 1] 2 x := not_viable (R := [[⟨0, 0, 0⟩, ⟨1, 0, 0⟩, ⟨2, 0, 0⟩], [⟨2, 1, 0⟩, ⟨0, 1, 0⟩, ⟨1, 1, 0⟩], []]) (by decide +kernel) rfl
theorem gTw_n111 : ¬ ∃ x, Ein gTw [1, 1, 1] 3 x := not_viable (R := [[⟨0, 0, 0⟩, ⟨1, 0, 0⟩, ⟨2, 0, 0⟩, ⟨3, 0, 0⟩, ⟨1, 1, 0⟩, ⟨1, 2, 0⟩, ⟨0, 1, 0⟩], [⟨2, 1, 0⟩, ⟨1, 1, 0⟩, ⟨1, 2, 0⟩, ⟨2, 0, 1⟩, ⟨3, 0, 1⟩, ⟨0, 1, 0⟩], [⟨2, 1, 1⟩, ⟨1, 2, 0⟩, ⟨0, 1, 0⟩], []]) (by decide +kernel) rfl
theorem gNe_n122 : ¬ ∃ x, Ein gNe [1, 2, 2] 3 x := not_viable (R := [[⟨0, 0, 0⟩, ⟨1, 0, 0⟩, ⟨2, 0, 0⟩, ⟨0, 1, 0⟩], [⟨1, 1, 0⟩, ⟨1, 0, 1⟩, ⟨2, 0, 1⟩, ⟨1, 2, 0⟩], [⟨1, 3, 0⟩, ⟨0, 1, 0⟩], []]) (by decide +kernel) rfl
theorem gNe_n2 : ¬ ∃ x, Ein gNe [2] 1 x := not_viable (R := [[⟨0, 0, 0⟩, ⟨1, 0, 0⟩, ⟨2, 0, 0⟩, ⟨0, 1, 0⟩], []]) (by decide +kernel) rfl

end Go.Proofs.Ytjeimmekhfhepaa

namespace Go.Proofs.Ytjeimmekhfhepaa
set_option linter.all false
open Go.Proofs.Ytjeimmekhfhepaa.E

def termsN (g : Gram) (l : List Int) (m : Nat) : List Int := if 1 < g.Terms.length then (l.take m).map fun x => 1 + bringN x ((g.Terms.length : Int) - 1) else []
theorem termsN_len (g : Gram) (l : List Int) (m : Nat) : (termsN g l m).length ≤ m := by
  unfold termsN; split
  · rw [List.length_map, List.length_take]; omega
  · exact Nat.zero_le _
theorem termsN_mem {g : Gram} {l : List Int} {m : Nat} {x : Int} (h : x ∈ termsN g l m) : 1 ≤ x ∧ x < g.Terms.length := by
  unfold termsN at h
  split at h
  · obtain ⟨y, _, rfl⟩ := List.mem_map.1 h
    have := bringN_rng (x := y) (m := (g.Terms.length : Int) - 1) (by omega)
    omega
  · cases h
theorem chk_of {g : Gram} {w : List Int} (hc : checkE g = 0) (hl : w.length ≤ 60) (hw : ∀ x ∈ w, 1 ≤ x ∧ x < g.Terms.length) : chkE g w = 0 := by
  unfold chkE
  rw [if_neg (by simp [hc]), if_neg (by omega), if_neg]
  intro h
  obtain ⟨x, hx, hb⟩ := List.any_eq_true.1 h
  have := hw x hx
  unfold kBad at hb
  simp only [Bool.or_eq_true, decide_eq_true_eq] at hb
  omega
theorem termsN_chk {g : Gram} {l : List Int} {m : Nat} (hc : checkE g = 0) (hm : m ≤ 60) : chkE g (termsN g l m) = 0 :=
  chk_of hc (by have := termsN_len g l m; omega) fun _ h => termsN_mem h

attribute [local irreducible] EVX EVO EVL EV1 NEV
attribute [local irreducible] own osl exA rdA rdL
attribute [local irreducible] bldA mapA bun mapS nums iterA mapV
set_option maxRecDepth 10000
set_option maxHeartbeats 4000000

theorem p_w (l : Int) (A : Option Addr) (n c : Nat) : Trip Try.prog 14 [.int .i64 l, .slice A n c] Rd.tt [] (fun v V => v = .agg #[.int .i64 l, .slice A n c, .int .i64 0, .int .i64 0] ∧ V = []) := by
  refine trip Try.tabOk Try.func14 rfl rfl rfl rfl ?_
  intro w SM _
  repeat' (first | refine e_nil ?_ | ((refine e_op ?_); (first | refine o_n (peval_sound rfl) rfl ?_ | refine o_storeC rfl rfl rfl rfl tc uc rfl rfl rfl ?_ | refine o_alloc rfl rfl (fun _ => ?_))) | refine s_seq ?_ | refine s_region ?_)
  exact s_ret ⟨_, _, resc rfl rfl rfl .z rfl, ⟨rfl, rfl⟩, Ent.nil _⟩

theorem terms_w (cs : List Value) (g : Gram) (Al : Option Addr) (cl : Nat) (l : List Int) (m : Nat) (hm : m ≤ 1000) (hS : GSm g) :
    Trip Try.prog 8 [.agg cs.toArray, .slice Al l.length cl, .int .i64 m] ((kGram.rd cs g).and ((kslice 8 kint).rd [.slice Al l.length cl] l)) []
    (fun v V => ∃ X c, v = .slice X (termsN g l m).length c ∧ V = [osl 3 1 (.slice X (termsN g l m).length c) (termsN g l m).length ((termsN g l m).map (Value.int .i64))]) := by
  refine trip Try.tabOk Try.func8 rfl rfl rfl rfl ?_
  rintro w SM ⟨hR, hRl⟩
  obtain ⟨A0, A1, A2, A3, A4, c0, c1, c2, c3, c4, rfl, hG⟩ := kGram_open hR
  obtain ⟨Al', cl', e, hl1, hl2, hl3⟩ := hRl
  cases e
  have hT := hS.tt
  repeat' (first | refine e_nil ?_ | ((refine e_op ?_); (first | refine o_n (peval_sound rfl) rfl ?_ | refine o_box rfl rfl (fun _ => ?_))) | refine s_seq ?_ | refine s_region ?_ | refine s_block ?_)
  rename_i b2
  refine s_loopK (ι := {x : Nat × Option Addr × Nat // x.1 ≤ l.length ∧ x.1 ≤ m ∧ (x.1 = 0 ∨ 1 < g.Terms.length)}) [1, 2, 3] rfl ⟨(0, none, 0), by simp⟩ (fun x => [(8, .int .i64 x.1.1), (7, .slice x.1.2.1 x.1.1 x.1.2.2)])
    (fun x => [blk b2 27 [.slice A0 g.Terms.length c0, .slice A1 g.Levels.length c1, .slice A2 g.Pats.length c2, .slice A3 g.Nons.length c3, .slice A4 g.Prods.length c4],
      osl 3 1 (.slice x.1.2.1 x.1.1 x.1.2.2) x.1.1 (((l.take x.1.1).map fun x => 1 + bringN x ((g.Terms.length : Int) - 1)).map (Value.int .i64))]) (fun x => l.length - x.1.1) ?_ ?_ ?_
  · repeat' (first | exact Sub.nil _ | refine Sub.cons rfl ?_)
  · exact Ent.tak .z (Ent.osl0 (Ent.nil _))
  rintro ⟨⟨i, A, c⟩, hi, him, hi1⟩
  simp only at hi him hi1 ⊢
  have hend : (¬ i < l.length ∨ ¬ i < m ∨ ¬ 1 < g.Terms.length) → (l.take i).map (fun x => 1 + bringN x ((g.Terms.length : Int) - 1)) = termsN g l m ∧ i = (termsN g l m).length := by
    intro h
    unfold termsN
    by_cases h1 : 1 < g.Terms.length
    · rw [if_pos h1]
      have h2 : i = min m l.length := by omega
      have h3 : l.take i = l.take m := by
        rcases Nat.le_total m l.length with h3 | h3
        · rw [h2, Nat.min_eq_left h3]
        · rw [h2, Nat.min_eq_right h3, List.take_length, List.take_of_length_le h3]
      rw [h3]
      exact ⟨rfl, by simp [h2]⟩
    · rw [if_neg h1]
      obtain rfl : i = 0 := by omega
      exact ⟨rfl, rfl⟩
  repeat' (first | ((refine e_op ?_); (refine o_n (peval_sound rfl) rfl ?_)) | refine s_seq ?_ | refine s_region ?_)
  by_cases hil : i < l.length
  · rw [decide_eq_true (by omega : (i : Int) < (l.length : Int))]
    repeat' (((first | refine e_op ?_ | refine e_yes rfl ?_); (refine o_n (peval_sound rfl) rfl ?_)))
    by_cases h14 : i < m
    · rw [decide_eq_true (by omega : (i : Int) < (m : Int))]
      repeat' (first | refine e_nil ?_ | ((first | refine e_op ?_ | refine e_yes rfl ?_); (first | refine o_n (peval_sound rfl) rfl ?_ | refine o_n (nl rfl rfl tc rfl) rfl ?_)))
      by_cases h1 : 1 < g.Terms.length
      · rw [decide_eq_true (by omega : (g.Terms.length : Int) > 1)]
        have hw1 : IntKind.i64.wrap ((g.Terms.length : Int) - 1) = (g.Terms.length : Int) - 1 := by rw [wrap_i64] <;> omega
        have hbr := bringN_rng (x := l[i]) (m := (g.Terms.length : Int) - 1) (by omega)
        have hw2 : IntKind.i64.wrap (1 + bringN l[i] ((g.Terms.length : Int) - 1)) = 1 + bringN l[i] ((g.Terms.length : Int) - 1) := by rw [wrap_i64] <;> omega
        obtain ⟨b, o, es, rfl, hb, ⟨rfl, hsI⟩, hc⟩ := hl3 i hil
        repeat' (first | refine s_seq ?_ | refine s_block ?_ | refine s_skip ?_ | refine s_true rfl ?_)
        refine s_drawT [9, 11, 12] (.s .z) Try.mixed (by decide +kernel) ?_
        repeat' (((refine l_n (peval_sound rfl) rfl ?_ rfl ?_); · (repeat' (first | exact Ent.nil _ | refine Ent.tak .z ?_))))
        refine l_n (n_index rfl rfl rfl rfl i rfl hil) rfl (by (repeat' (first | exact Ent.nil _ | refine Ent.tak .z ?_))) rfl ?_
        refine l_n (n_load_ro rfl rfl hb (loads_one rfl (hc 0 _ rfl))) rfl (by (repeat' (first | exact Ent.nil _ | refine Ent.tak .z ?_))) rfl ?_
        repeat' (((first | refine l_n (peval_sound rfl) rfl ?_ rfl ?_ | refine l_n (nl rfl rfl tc rfl) rfl ?_ rfl ?_); · (repeat' (first | exact Ent.nil _ | refine Ent.tak .z ?_))))
        rw [hw1]
        refine l_e rfl (o_call (bring_w l[i] ((g.Terms.length : Int) - 1) hsI ⟨by omega, by omega⟩ (by omega)) rfl .nil Can.tt rfl ?_)
        rintro v V ⟨rfl, rfl⟩
        simp only [List.nil_append]
        refine ⟨(by (repeat' (first | exact Ent.nil _ | refine Ent.tak .z ?_))), ?_⟩
        repeat' (((refine l_n (peval_sound rfl) rfl ?_ rfl ?_); · (repeat' (first | exact Ent.nil _ | refine Ent.tak .z ?_))))
        rw [hw2]
        refine l_e rfl (o_lit rfl rfl rfl rfl rfl rfl rfl (fun b9 => ⟨(by (repeat' (first | exact Ent.nil _ | refine Ent.tak .z ?_ | refine Ent.wk ?_))), ?_⟩))
        refine l_e rfl (o_append (v := .slice A i c) (n := i) (m := 1) (news := [.int .i64 (1 + bringN l[i] ((g.Terms.length : Int) - 1))]) _ rfl rfl rfl rfl (fun w hm j u hu => ?_) rfl ?_ rfl (by omega) (by simp only; omega) (by omega) rfl (fun b c => .s (.s .z)) (fun ba ca => ⟨(by (repeat' (first | exact Ent.nil _ | refine Ent.tak .z ?_ | refine Ent.wk ?_))), ?_⟩))
        · obtain ⟨S1, hP, _⟩ := hm.tak Tak.z
          rw [Nat.zero_add]
          exact osl_cells hP j u hu
        · intro u hu
          simp only [List.mem_singleton] at hu
          subst hu; rfl
        repeat' (first | refine l_nil ?_ | ((refine l_n (peval_sound rfl) rfl ?_ rfl ?_); · (repeat' (first | exact Ent.nil _ | refine Ent.tak .z ?_ | refine Ent.wk ?_))))
        repeat' (first | refine e_nil ?_ | ((refine e_op ?_); (refine o_n (peval_sound rfl) rfl ?_)) | refine s_region ?_ | refine s_end ?_)
        refine s_back ⟨⟨(i + 1, some ⟨ba, 0, none⟩, ca), by simp only; omega⟩, by simp only; omega, ?_, ?_⟩
        · repeat' (first | exact Sub.nil _ | refine Sub.cons rfl ?_ | refine Sub.consE rfl ?_ ?_)
          exact inc (i := i) (by omega)
        · simp only [List.take_succ_eq_append_getElem hil, List.map_append, List.map_cons, List.map_nil]
          repeat' (first | exact Ent.nil _ | refine Ent.tak tk ?_)
      · rw [decide_eq_false (by omega : ¬ (g.Terms.length : Int) > 1)]
        obtain ⟨e1, e2⟩ := hend (.inr (.inr h1))
        repeat' (first | refine e_nil ?_ | ((refine e_op ?_); (refine o_n (peval_sound rfl) rfl ?_)) | refine s_seq ?_ | refine s_region ?_ | refine s_exit ?_ | refine s_false rfl ?_ | refine x_hit ?_ | refine x_code ?_ | refine x_back ?_)
        rw [e1]
        refine s_ret ⟨_, _, res1 rfl rfl, ⟨A, c, by rw [← e2], rfl⟩, ?_⟩
        rw [← e2]
        exact Ent.wk (Ent.refl _)
    · rw [decide_eq_false (by omega : ¬ (i : Int) < (m : Int))]
      obtain ⟨e1, e2⟩ := hend (.inr (.inl h14))
      repeat' (first | refine e_nil ?_ | ((refine e_op ?_); (refine o_n (peval_sound rfl) rfl ?_)) | refine e_noU rfl rfl rfl ?_ | refine s_seq ?_ | refine s_region ?_ | refine s_exit ?_ | refine s_false rfl ?_ | refine x_hit ?_ | refine x_code ?_ | refine x_back ?_)
      rw [e1]
      refine s_ret ⟨_, _, res1 rfl rfl, ⟨A, c, by rw [← e2], rfl⟩, ?_⟩
      rw [← e2]
      exact Ent.wk (Ent.refl _)
  · rw [decide_eq_false (by omega : ¬ (i : Int) < (l.length : Int))]
    obtain ⟨e1, e2⟩ := hend (.inl hil)
    repeat' (first | refine e_nil ?_ | ((refine e_op ?_); (refine o_n (peval_sound rfl) rfl ?_)) | refine e_noU rfl rfl rfl ?_ | refine s_seq ?_ | refine s_region ?_ | refine s_exit ?_ | refine s_false rfl ?_ | refine x_hit ?_ | refine x_code ?_ | refine x_back ?_)
    rw [e1]
    refine s_ret ⟨_, _, res1 rfl rfl, ⟨A, c, by rw [← e2], rfl⟩, ?_⟩
    rw [← e2]
    exact Ent.wk (Ent.refl _)

theorem der_iff {g : Gram} {w : List Int} (hS : GSm g) {W : Ws} (hW : DoneW g w W) : Ein g w w.length ⟨0, 1, 0⟩ ↔ 0 < W 0 0 w.length := by
  rw [derives_iff hS.n0 hS.r0, hW.derives (fun q hq s hs => by have := hS.rs q hq s hs; omega) hS.n0 hS.lz]
theorem tells_w (cs : List Value) (g : Gram) (Ak : Option Addr) (ck : Nat) (w : List Int) (d vb : Bool) (ways : Nat) (hE : chkE g w = 0) (hc : ∀ W, DoneW g w W → W 0 0 w.length = ways) (hd : d = decide (0 < ways)) (hv : vb = true ↔ 0 < ways ∨ ∃ x, Ein g w w.length x) :
    Trip Try.prog 15 [.agg cs.toArray, .bool d, .bool vb, .int .i64 ways, .slice Ak w.length ck] ((kGram.rd cs g).and ((kslice 8 kint).rd [.slice Ak w.length ck] w)) []
      (fun v V => v = .bool true ∧ V = []) := by
  refine trip Try.tabOk Try.func15 rfl rfl rfl rfl ?_
  rintro wd SM ⟨hR, hK⟩
  obtain ⟨A0, A1, A2, A3, A4, c0, c1, c2, c3, c4, rfl, hG⟩ := kGram_open hR
  have hS := gSm (chk_parts hE).1
  repeat' (first | refine e_nil ?_ | ((refine e_op ?_); (first | refine o_n (peval_sound rfl) rfl ?_ | refine o_n (nl rfl rfl tc rfl) rfl ?_ | refine o_box rfl rfl (fun _ => ?_))) | refine s_seq ?_ | refine s_region ?_)
  refine e_op (o_call (derives_w _ g Ak ck w) rfl .nil (Can.and (Can.ro hR) (Can.ro hK)) rfl ?_)
  rintro v V ⟨b1, rfl, h1, rfl⟩
  simp only [List.nil_append]
  repeat' (first | refine e_nil ?_ | ((refine e_op ?_); (first | refine o_n (peval_sound rfl) rfl ?_ | refine o_n (nl rfl rfl tc rfl) rfl ?_)) | refine s_seq ?_ | refine s_region ?_)
  refine e_op (o_call (viable_w _ g Ak ck w) rfl .nil (Can.and (Can.ro hR) (Can.ro hK)) rfl ?_)
  rintro v V ⟨b2, rfl, h2, rfl⟩
  simp only [List.nil_append]
  repeat' (first | refine e_nil ?_ | ((refine e_op ?_); (first | refine o_n (peval_sound rfl) rfl ?_ | refine o_n (nl rfl rfl tc rfl) rfl ?_)) | refine s_seq ?_ | refine s_region ?_)
  refine e_op (o_call (counts_w _ g Ak ck w) rfl .nil (Can.and (Can.ro hR) (Can.ro hK)) rfl ?_)
  rintro v V ⟨n, rfl, h3, rfl⟩
  simp only [List.nil_append]
  obtain ⟨W, hW, rfl⟩ := h3.2 hE
  rw [hE] at *
  have e1 : b1 = d := by
    rw [hd, Bool.eq_iff_iff, h1, decide_eq_true_eq, der_iff hS hW, hc W hW]
    exact ⟨fun h => h.2, fun h => ⟨rfl, h⟩⟩
  have e2 : b2 = vb := by
    rw [Bool.eq_iff_iff, h2, hv]
    refine ⟨fun h => .inr h.2, fun h => ⟨rfl, h.elim (fun h => ?_) id⟩⟩
    exact ⟨_, (der_iff hS hW).2 (by rw [hc W hW]; exact h)⟩
  rw [e1, e2, hc W hW]
  repeat' (first | refine e_nil ?_ | ((first | refine e_op ?_ | refine e_yes rfl ?_); (refine o_n (peval_sound rfl) rfl ?_)) | refine s_seq ?_ | refine s_region ?_)
  simp only [beq_self_eq_true]
  repeat' (((first | refine e_op ?_ | refine e_yes rfl ?_); (refine o_n (peval_sound rfl) rfl ?_)))
  simp only [beq_self_eq_true]
  repeat' (first | refine e_nil ?_ | ((first | refine e_op ?_ | refine e_yes rfl ?_); (refine o_n (peval_sound rfl) rfl ?_)))
  simp only [beq_self_eq_true]
  skip
  exact s_ret ⟨_, _, res1 rfl rfl, ⟨rfl, rfl⟩, Ent.nil _⟩

theorem hv_yes {g : Gram} {w : List Int} {n : Nat} (h : 0 < n) : true = true ↔ 0 < n ∨ ∃ x, Ein g w w.length x := ⟨fun _ => .inl h, fun _ => rfl⟩
theorem hv_via {g : Gram} {w : List Int} (h : ∃ x, Ein g w w.length x) : true = true ↔ 0 < 0 ∨ ∃ x, Ein g w w.length x := ⟨fun _ => .inr h, fun _ => rfl⟩
theorem hv_no {g : Gram} {w : List Int} (h : ¬ ∃ x, Ein g w w.length x) : false = true ↔ 0 < 0 ∨ ∃ x, Ein g w w.length x := ⟨fun h => (by cases h), fun h2 => h2.elim (fun h3 => absurd h3 (Nat.lt_irrefl _)) (fun h3 => absurd h3 h)⟩

end Go.Proofs.Ytjeimmekhfhepaa

namespace Go.Proofs.Ytjeimmekhfhepaa
set_option linter.all false
open Go.Proofs.Ytjeimmekhfhepaa.E

def suA (b3 b5 b7 : Nat) : List (Option Addr × Nat) := [(some ⟨b3, 0, none⟩, 1), (some ⟨b5, 0, none⟩, 3), (some ⟨b7, 0, none⟩, 1)]
def suM : List Mk := [
  ⟨1, [0], fun l => sl (l.getD 0 0) 3, fun l => [strs (l.getD 0 0) gSu.Terms]⟩,
  ⟨2, [1], fun l => sl (l.getD 0 0) 3, fun l => [levZ (l.getD 0 0) gSu.Levels]⟩,
  ⟨3, [2], fun l => sl (l.getD 0 0) 2, fun l => [strs (l.getD 0 0) gSu.Nons]⟩,
  ⟨4, [3], fun l => sl (l.getD 0 0) 1, fun l => [ints (l.getD 0 0) [4]]⟩,
  ⟨5, [3], fun l => pv 0 (sl (l.getD 0 0) 1), fun _ => []⟩,
  ⟨6, [5], fun l => sl (l.getD 0 0) 3, fun l => [ints (l.getD 0 0) [4, 2, 4]]⟩,
  ⟨7, [5], fun l => pv 1 (sl (l.getD 0 0) 3), fun _ => []⟩,
  ⟨8, [7], fun l => sl (l.getD 0 0) 1, fun l => [ints (l.getD 0 0) [1]]⟩,
  ⟨9, [7], fun l => pv 1 (sl (l.getD 0 0) 1), fun _ => []⟩,
  ⟨10, [9, 3, 5, 7], fun l => sl (l.getD 0 0) 3, fun l => [prS (some ⟨l.getD 0 0, 0, none⟩) 3 (suA (l.getD 1 0) (l.getD 2 0) (l.getD 3 0)) gSu.Prods]⟩,
  ⟨11, [0, 1, 2, 9], fun l => .agg #[sl (l.getD 0 0) 3, sl (l.getD 1 0) 3, .slice none 0 0, sl (l.getD 2 0) 2, sl (l.getD 3 0) 3], fun _ => []⟩]
theorem gSu_ok : PrOk gSu.Prods := prOk_of (by decide) (by decide +kernel)
abbrev suO (b0 b1 b2 bp : Nat) (acs : List (Option Addr × Nat)) : List Asn := [strs (b0) gSu.Terms, levZ (b1) gSu.Levels, strs (b2) gSu.Nons, prS (some ⟨bp, 0, none⟩) 3 acs gSu.Prods, prB acs gSu.Prods]
theorem can_su {E0 : Go.Proofs.Ytjeimmekhfhepaa.E.Env} {U : List Asn} {b0 b1 b2 bp : Nat} {acs : List (Option Addr × Nat)} (hl : acs.length = gSu.Prods.length) : Go.Proofs.Ytjeimmekhfhepaa.E.Can E0 (suO b0 b1 b2 bp acs ++ U) (kGram.rd [sl (b0) 3, sl (b1) 3, .slice none 0 0, sl (b2) 2, sl (bp) 3] gSu) :=
  can_gramP hl 3 (by decide) rfl rfl (by decide) (by decide) (by decide) gSu_ok (fun x hx => List.eq_of_mem_replicate hx) (Ent.refl _)
attribute [local irreducible] EVX EVO EVL EV1 NEV
attribute [local irreducible] own osl exA rdA rdL
attribute [local irreducible] bldA mapA bun mapS nums iterA mapV
set_option maxRecDepth 10000
set_option maxHeartbeats 4000000

theorem sums_w : Trip Try.prog 16 [] Rd.tt [] (fun v V => ∃ b0 b1 b2 bp acs, acs.length = gSu.Prods.length ∧ v = .agg ([sl (b0) 3, sl (b1) 3, .slice none 0 0, sl (b2) 2, sl (bp) 3] : List Value).toArray ∧ V = suO b0 b1 b2 bp acs) := by
  refine trip Try.tabOk Try.func16 rfl rfl rfl rfl ?_
  intro w SM _
  repeat' (first | refine e_nil ?_ | ((refine e_op ?_); (refine o_alloc rfl rfl (fun _ => ?_))) | refine s_seq ?_ | refine s_region ?_)
  rename_i b
  refine s_mk suM Try.mixed (by kernel_rfl) ?_ rfl ?_
  · intro i hi
    match i, hi with
    | 0, _ => exact mk_step [] rfl rfl rfl (by decide +kernel) (fun B U => o_makeS rfl rfl rfl rfl 3 rfl rfl (by decide) (by decide) rfl rfl (fun b => ⟨b, rfl, Ent.refl _⟩))
    | 1, _ => exact mk_step [] rfl rfl rfl (by decide +kernel) (fun B U => o_makeS rfl rfl rfl rfl 3 rfl rfl (by decide) (by decide) rfl rfl (fun b => ⟨b, rfl, Ent.refl _⟩))
    | 2, _ => exact mk_step [] rfl rfl rfl (by decide +kernel) (fun B U => o_makeS rfl rfl rfl rfl 2 rfl rfl (by decide) (by decide) rfl rfl (fun b => ⟨b, rfl, Ent.refl _⟩))
    | 3, _ => exact mk_step [] rfl rfl rfl (by decide +kernel) (fun B U => o_lit rfl rfl rfl rfl rfl rfl rfl (fun b => ⟨b, rfl, Ent.refl _⟩))
    | 4, _ => exact mk_step [3] rfl rfl rfl (by decide +kernel) (fun B U => o_call (p_w _ _ _ _) rfl .nil Can.tt rfl (by rintro v V ⟨rfl, rfl⟩; exact ⟨0, rfl, Ent.refl _⟩))
    | 5, _ => exact mk_step [] rfl rfl rfl (by decide +kernel) (fun B U => o_lit rfl rfl rfl rfl rfl rfl rfl (fun b => ⟨b, rfl, Ent.refl _⟩))
    | 6, _ => exact mk_step [5] rfl rfl rfl (by decide +kernel) (fun B U => o_call (p_w _ _ _ _) rfl .nil Can.tt rfl (by rintro v V ⟨rfl, rfl⟩; exact ⟨0, rfl, Ent.refl _⟩))
    | 7, _ => exact mk_step [] rfl rfl rfl (by decide +kernel) (fun B U => o_lit rfl rfl rfl rfl rfl rfl rfl (fun b => ⟨b, rfl, Ent.refl _⟩))
    | 8, _ => exact mk_step [7] rfl rfl rfl (by decide +kernel) (fun B U => o_call (p_w _ _ _ _) rfl .nil Can.tt rfl (by rintro v V ⟨rfl, rfl⟩; exact ⟨0, rfl, Ent.refl _⟩))
    | 9, _ => exact mk_step [4, 6, 8] rfl rfl rfl (by decide +kernel) (fun B U => o_lit (ps := [(0, pv 0 (sl (B 3) 1)), (1, pv 1 (sl (B 5) 3)), (2, pv 1 (sl (B 7) 1))]) (cs := prC (suA (B 3) (B 5) (B 7)) gSu.Prods) rfl rfl (by kernel_rfl) rfl rfl (by kernel_rfl) rfl (fun b => ⟨b, rfl, Ent.refl _⟩))
    | 10, _ => exact mk_step [0, 1, 2, 9] rfl rfl rfl (by decide +kernel) (fun B U => o_n (peval_sound rfl) rfl ⟨0, rfl, Ent.refl _⟩)
    | n + 11, h => exact absurd h (by simp [suM])
  · intro B
    refine o_store (b := b) (o := 0) (vs := [sl (B 0) 3, sl (B 1) 3, .slice none 0 0, sl (B 2) 2, sl (B 9) 3]) rfl rfl rfl rfl rfl rfl rfl (.s (.s (.s (.s (.s (.s (.s (.z)))))))) ?_
    skip
    refine s_ret ⟨_, _, resc rfl rfl rfl (.s (.s (.s (.s (.s (.s (.s (.z)))))))) rfl, ⟨B 0, B 1, B 2, B 9, suA (B 3) (B 5) (B 7), rfl, rfl, rfl⟩, ?_⟩
    refine Ent.cons (Ent.cons (Ent.cons (Ent.tak (.s (.s (.s (.z)))) ?_)))
    exact Ent.trans (Ent.cons (Ent.cons (Ent.cons (Ent.wk (Ent.refl _))))) (ent_bun (L := [_, _, _]) (V := []))

theorem can_ilit {E0 : Go.Proofs.Ytjeimmekhfhepaa.E.Env} {U : List Asn} {b : Nat} (l : List Int) (hI : (l.all fun x => decide (-1000 ≤ x) && decide (x ≤ 1000)) = true) (hl : l.length ≤ 1000) : Go.Proofs.Ytjeimmekhfhepaa.E.Can E0 (osl 3 1 (.slice (some ⟨b, 0, none⟩) l.length l.length) l.length (l.map (Value.int .i64)) :: U) ((kslice 8 kint).rd [.slice (some ⟨b, 0, none⟩) l.length l.length] l) :=
  can_ints .z (fun x hx => by
    have := List.all_eq_true.1 hI x hx
    simp only [Bool.and_eq_true, decide_eq_true_eq] at this
    unfold I64; omega) (by omega)
theorem can_inil {E0 : Go.Proofs.Ytjeimmekhfhepaa.E.Env} {U : List Asn} : Go.Proofs.Ytjeimmekhfhepaa.E.Can E0 U ((kslice 8 kint).rd [.slice none 0 0] ([] : List Int)) := Can.of fun w S hs => sl_mk (els_nil (k := kint))

theorem su_v12 : ∃ x, Ein gSu [1, 2] 2 x := by
  have h1 : Ein gSu [1, 2] 0 ⟨1, 0, 0⟩ := .pred (s := 4) .start (by decide) (by decide) (by decide) (by decide)
  have h2 : Ein gSu [1, 2] 0 ⟨2, 0, 0⟩ := .pred (s := 4) .start (by decide) (by decide) (by decide) (by decide)
  have h3 : Ein gSu [1, 2] 1 ⟨2, 1, 0⟩ := .scan (s := 1) h2 (by decide) (by decide) (by decide)
  have h4 : Ein gSu [1, 2] 1 ⟨1, 1, 0⟩ := .comp (s := 4) h3 (by decide) h1 (by decide) (by decide) (by decide)
  exact ⟨_, .scan (s := 2) h4 (by decide) (by decide) (by decide)⟩
theorem works_w : Trip Try.prog 6 [] Rd.tt [] (fun v V => v = .bool true ∧ V = []) := by
  refine trip Try.tabOk Try.func6 rfl rfl rfl rfl ?_
  rintro w SM hW
  clear hW
  repeat' (first | refine e_nil ?_ | ((refine e_op ?_); (refine o_n (peval_sound rfl) rfl ?_)) | refine s_seq ?_ | refine s_region ?_)
  refine e_op (o_call sums_w rfl .nil Can.tt rfl ?_)
  rintro v V ⟨b0, b1, b2, bp, acs, hl, rfl, rfl⟩
  repeat' (first | refine e_nil ?_ | ((refine e_op ?_); (first | refine o_n (nl rfl rfl tc rfl) rfl ?_ | refine o_storeC rfl rfl rfl rfl tc uc rfl rfl rfl ?_ | refine o_alloc rfl rfl (fun _ => ?_))) | refine s_seq ?_ | refine s_region ?_)
  rename_i b
  refine e_op (o_lit (ps := [(0, .int .i64 1), (1, .int .i64 2), (2, .int .i64 1)]) (cs := ([1, 2, 1] : List Int).map (Value.int .i64)) rfl rfl rfl rfl rfl rfl rfl (fun bl => ?_))
  refine e_op (o_call (tells_w _ gSu (some ⟨bl, 0, none⟩) 3 [1, 2, 1] _ _ 1 (by decide +kernel) (fun W hW => gSu_w121 hW) (by decide) (hv_yes (by decide))) rfl .nil (Can.and (Can.byEnt (can_su (U := []) hl) (Ent.wk (Ent.wk (Ent.refl _)))) (can_ilit [1, 2, 1] (by decide) (by decide))) rfl ?_)
  rintro v V ⟨rfl, rfl⟩
  simp only [List.nil_append]
  repeat' (((first | refine e_op ?_ | refine e_yes rfl ?_); (first | refine o_n (peval_sound rfl) rfl ?_ | refine o_n (nl rfl rfl tc rfl) rfl ?_)))
  refine e_ent (Ent.wk (Ent.refl _)) ?_
  refine e_yes rfl (o_lit (ps := [(0, .int .i64 1), (1, .int .i64 2)]) (cs := ([1, 2] : List Int).map (Value.int .i64)) rfl rfl rfl rfl rfl rfl rfl (fun bl => ?_))
  refine e_yes rfl (o_call (tells_w _ gSu (some ⟨bl, 0, none⟩) 2 [1, 2] _ _ 0 (by decide +kernel) (fun W hW => gSu_w12 hW) (by decide) (hv_via su_v12)) rfl .nil (Can.and (Can.byEnt (can_su (U := []) hl) (Ent.wk (Ent.wk (Ent.refl _)))) (can_ilit [1, 2] (by decide) (by decide))) rfl ?_)
  rintro v V ⟨rfl, rfl⟩
  simp only [List.nil_append]
  repeat' (((first | refine e_op ?_ | refine e_yes rfl ?_); (first | refine o_n (peval_sound rfl) rfl ?_ | refine o_n (nl rfl rfl tc rfl) rfl ?_)))
  refine e_ent (Ent.wk (Ent.refl _)) ?_
  refine e_yes rfl (o_lit (ps := [(0, .int .i64 1), (1, .int .i64 1)]) (cs := ([1, 1] : List Int).map (Value.int .i64)) rfl rfl rfl rfl rfl rfl rfl (fun bl => ?_))
  refine e_yes rfl (o_call (tells_w _ gSu (some ⟨bl, 0, none⟩) 2 [1, 1] _ _ 0 (by decide +kernel) (fun W hW => gSu_w11 hW) (by decide) (hv_no gSu_n11)) rfl .nil (Can.and (Can.byEnt (can_su (U := []) hl) (Ent.wk (Ent.wk (Ent.refl _)))) (can_ilit [1, 1] (by decide) (by decide))) rfl ?_)
  rintro v V ⟨rfl, rfl⟩
  simp only [List.nil_append]
  repeat' (((first | refine e_op ?_ | refine e_yes rfl ?_); (first | refine o_n (peval_sound rfl) rfl ?_ | refine o_n (nl rfl rfl tc rfl) rfl ?_)))
  refine e_ent (Ent.wk (Ent.refl _)) ?_
  refine e_yes rfl (o_lit (ps := [(0, .int .i64 1)]) (cs := ([1] : List Int).map (Value.int .i64)) rfl rfl rfl rfl rfl rfl rfl (fun bl => ?_))
  refine e_yes rfl (o_call (tells_w _ gSu (some ⟨bl, 0, none⟩) 1 [1] _ _ 1 (by decide +kernel) (fun W hW => gSu_w1 hW) (by decide) (hv_yes (by decide))) rfl .nil (Can.and (Can.byEnt (can_su (U := []) hl) (Ent.wk (Ent.wk (Ent.refl _)))) (can_ilit [1] (by decide) (by decide))) rfl ?_)
  rintro v V ⟨rfl, rfl⟩
  simp only [List.nil_append]
  repeat' (((first | refine e_op ?_ | refine e_yes rfl ?_); (first | refine o_n (peval_sound rfl) rfl ?_ | refine o_n (nl rfl rfl tc rfl) rfl ?_)))
  refine e_ent (Ent.wk (Ent.refl _)) ?_
  refine e_yes rfl (o_lit (ps := [(0, .int .i64 1), (1, .int .i64 2), (2, .int .i64 1), (3, .int .i64 2), (4, .int .i64 1)]) (cs := ([1, 2, 1, 2, 1] : List Int).map (Value.int .i64)) rfl rfl rfl rfl rfl rfl rfl (fun bl => ?_))
  refine e_yes rfl (o_call (tells_w _ gSu (some ⟨bl, 0, none⟩) 5 [1, 2, 1, 2, 1] _ _ 2 (by decide +kernel) (fun W hW => gSu_w12121 hW) (by decide) (hv_yes (by decide))) rfl .nil (Can.and (Can.byEnt (can_su (U := []) hl) (Ent.wk (Ent.wk (Ent.refl _)))) (can_ilit [1, 2, 1, 2, 1] (by decide) (by decide))) rfl ?_)
  rintro v V ⟨rfl, rfl⟩
  simp only [List.nil_append]
  repeat' (((first | refine e_op ?_ | refine e_yes rfl ?_); (first | refine o_n (peval_sound rfl) rfl ?_ | refine o_n (nl rfl rfl tc rfl) rfl ?_)))
  refine e_ent (Ent.wk (Ent.refl _)) ?_
  refine e_yes rfl (o_call (tells_w _ gSu none 0 [] _ _ 0 (by decide +kernel) (fun W hW => gSu_we hW) (by decide) (hv_via ⟨_, .start⟩)) rfl .nil (Can.and (Can.byEnt (can_su (U := []) hl) (Ent.wk (Ent.refl _))) can_inil) rfl ?_)
  rintro v V ⟨rfl, rfl⟩
  simp only [List.nil_append]
  repeat' (first | refine e_nil ?_ | ((refine e_op ?_); (refine o_n (peval_sound rfl) rfl ?_)))
  exact s_ret ⟨_, _, res1 rfl rfl, ⟨rfl, rfl⟩, Ent.nil _⟩

end Go.Proofs.Ytjeimmekhfhepaa

namespace Go.Proofs.Ytjeimmekhfhepaa
set_option linter.all false
open Go.Proofs.Ytjeimmekhfhepaa.E

theorem op3 : Opn Try.prog 3 kint := op_int Try.underlying3
theorem op9 : Opn Try.prog 9 kstr := op_str Try.underlying9
theorem op24 : Opn Try.prog 28 (kslice 8 kint) := op_slice Try.underlying28 (by kernel_rfl) (by kernel_rfl) (by decide) op3
theorem op39 : Opn Try.prog 22 (kslice 16 kstr) := op_slice Try.underlying22 (by kernel_rfl) (by kernel_rfl) (by decide) op9
theorem op65 : Opn Try.prog 42 kLev := op_iso (fun y => ⟨⟨y.1, y.2⟩, rfl⟩) (op_struct Try.underlying42 (by kernel_rfl) (ops_cons (by kernel_rfl) op3 rfl (ops_one (by kernel_rfl) op3)))
theorem op40 : Opn Try.prog 23 (kslice 16 kLev) := op_slice Try.underlying23 (by kernel_rfl) (by kernel_rfl) (by decide) op65
theorem op146 : Opn Try.prog 110 kPt := op_iso (fun y => ⟨⟨y.1, y.2⟩, rfl⟩) (op_struct Try.underlying110 (by kernel_rfl) (ops_cons (by kernel_rfl) op3 rfl (ops_one (by kernel_rfl) op9)))
theorem op41 : Opn Try.prog 24 (kslice 24 kPt) := op_slice Try.underlying24 (by kernel_rfl) (by kernel_rfl) (by decide) op146
theorem op67 : Opn Try.prog 44 kPrd := op_iso (fun y => ⟨⟨y.1, y.2.1, y.2.2⟩, rfl⟩) (op_struct Try.underlying44 (by kernel_rfl) (ops_cons (by kernel_rfl) op3 rfl (ops_cons (by kernel_rfl) op24 rfl (ops_one (by kernel_rfl) op65))))
theorem op42 : Opn Try.prog 25 (kslice 48 kPrd) := op_slice Try.underlying25 (by kernel_rfl) (by kernel_rfl) (by decide) op67
theorem op44 : Opn Try.prog 27 kGram := op_iso (fun y => ⟨⟨y.1, y.2.1, y.2.2.1, y.2.2.2.1, y.2.2.2.2⟩, rfl⟩) (op_struct Try.underlying27 (by kernel_rfl)
  (ops_cons (by kernel_rfl) op39 rfl (ops_cons (by kernel_rfl) op40 rfl (ops_cons (by kernel_rfl) op41 rfl (ops_cons (by kernel_rfl) op39 rfl (ops_one (by kernel_rfl) op42))))))

theorem Try.laidOut : laidOutB Try.prog = true := by kernel_rfl
theorem Try.own : ownKnob Try.prog.godebug = none := by kernel_rfl

end Go.Proofs.Ytjeimmekhfhepaa
