/-
  Plain: items told by numbers; what is closed is so at once, is more of more items, and holds nothing that need not be there.
-/
import Derived.Test.YtcbaebkkdkdaaaaDoorAhBase3

namespace Go.Proofs.YtcbaebkkdkdaaaaDoor
set_option linter.all false
open Go.Proofs.YtcbaebkkdkdaaaaDoor.E

def bringN (x m : Int) : Int := if m ≤ 0 then 0 else if x.tmod m < 0 then x.tmod m + m else x.tmod m

theorem tmod_gt (x : Int) {m : Int} (h : 0 < m) : -m < x.tmod m := by
  have h2 : (-x).tmod m = -(x.tmod m) := Int.neg_tmod x m
  have h3 := Int.tmod_lt_of_pos (-x) h
  omega

theorem bringN_rng {x m : Int} (h : 0 < m) : 0 ≤ bringN x m ∧ bringN x m < m := by
  unfold bringN
  rw [if_neg (by omega)]
  have h1 := Int.tmod_lt_of_pos x h
  by_cases hx : 0 ≤ x
  · have h2 := Int.tmod_nonneg m hx
    rw [if_neg (by omega)]; omega
  · have h2 : (-x).tmod m = -(x.tmod m) := Int.neg_tmod x m
    have h3 := Int.tmod_lt_of_pos (-x) h
    have h4 := Int.tmod_nonneg m (show 0 ≤ -x by omega)
    split <;> omega

/-- The item that a number tells. -/
def itemN (g : Gram) (x : Int) : Itm := ⟨((bringN x (13 * g.Prods.length)).toNat / 13 : Nat), ((bringN x (13 * g.Prods.length)).toNat % 13 % ((prd g ((bringN x (13 * g.Prods.length)).toNat / 13 : Nat)).Right.length + 1) : Nat)⟩

theorem itemN_in {g : Gram} (h : 0 < g.Prods.length) (x : Int) : inG g (itemN g x) = true := by
  have h1 := bringN_rng (x := x) (m := 13 * g.Prods.length) (by omega)
  unfold inG itemN
  generalize bringN x (13 * g.Prods.length) = v at h1
  simp only [Bool.and_eq_true, decide_eq_true_eq]
  have h2 : v.toNat % 13 % ((prd g (v.toNat / 13 : Nat)).Right.length + 1) < (prd g (v.toNat / 13 : Nat)).Right.length + 1 := Nat.mod_lt _ (by omega)
  exact ⟨by omega, by omega, by omega, by omega⟩

def itemsG (g : Gram) (a : List Int) : List Itm := (a.take 30).map (itemN g)

theorem itemsG_len (g : Gram) (a : List Int) : (itemsG g a).length ≤ 30 := by unfold itemsG; rw [List.length_map, List.length_take]; omega
theorem itemsG_in {g : Gram} (h : 0 < g.Prods.length) (a : List Int) : ∀ x ∈ itemsG g a, inG g x = true := fun x hx => by
  unfold itemsG at hx
  obtain ⟨y, _, rfl⟩ := List.mem_map.1 hx
  exact itemN_in h y

theorem closedP_idem {g : Gram} (o : GOk g) {l : List Itm} (hin : ∀ x ∈ l, inG g x = true) : closedP g (closedP g l) = closedP g l := by
  obtain ⟨s1, m1⟩ := closedP_spec o.beh o.left hin
  have hin2 : ∀ x ∈ closedP g l, inG g x = true := fun x hx => ((m1 x).1 hx).inG hin
  obtain ⟨s2, m2⟩ := closedP_spec o.beh o.left hin2
  exact SortI.ext s2 s1 fun x => by rw [m2, m1]; exact ⟨fun h => h.sub fun y hy => (m1 y).1 hy, fun h => .base ((m1 x).2 h)⟩

theorem closedP_more {g : Gram} (o : GOk g) {l m : List Itm} (hin : ∀ x ∈ l ++ m, inG g x = true) {x : Itm} (hx : x ∈ closedP g l) : x ∈ closedP g (l ++ m) := by
  obtain ⟨s1, m1⟩ := closedP_spec o.beh o.left (fun x hx => hin x (List.mem_append_left m hx))
  obtain ⟨s2, m2⟩ := closedP_spec o.beh o.left hin
  exact (m2 x).2 (((m1 x).1 hx).mono fun y hy => List.mem_append_left m hy)

theorem closedP_has {g : Gram} (o : GOk g) {l : List Itm} (hin : ∀ x ∈ l, inG g x = true) {x : Itm} (hx : x ∈ l) : x ∈ closedP g l :=
  ((closedP_spec o.beh o.left hin).2 x).2 (.base hx)

theorem closedP_why {g : Gram} (o : GOk g) {l : List Itm} (hin : ∀ x ∈ l, inG g x = true) {x : Itm} (hx : x ∈ closedP g l) : x ∈ l ∨ (x.Dot = 0 ∧ ∃ y ∈ closedP g l, beh g y = g.Terms.length + (prd g x.Prod).Left) := by
  obtain ⟨s1, m1⟩ := closedP_spec o.beh o.left hin
  cases (m1 x).1 hx with
  | base h => exact .inl h
  | @step y k hy hk hb => exact .inr ⟨rfl, y, (m1 y).2 hy, hb⟩

/-- Is an item handed in, or one of the first k is a reason for it? -/
def whyB (g : Gram) (l cl : List Itm) (x : Itm) (k : Nat) : Bool := decide (x ∈ l) || (cl.take k).any fun y => decide (beh g y = g.Terms.length + (prd g x.Prod).Left)

theorem whyB_zero (g : Gram) (l cl : List Itm) (x : Itm) : whyB g l cl x 0 = decide (x ∈ l) := by unfold whyB; simp
theorem whyB_succ {g : Gram} {l cl : List Itm} {x : Itm} {k : Nat} (h : k < cl.length) : whyB g l cl x (k + 1) = (whyB g l cl x k || decide (beh g cl[k] = g.Terms.length + (prd g x.Prod).Left)) := by
  unfold whyB
  rw [List.take_succ_eq_append_getElem h, List.any_append, List.any_cons, List.any_nil, Bool.or_false, Bool.or_assoc]
theorem whyB_all {g : Gram} (o : GOk g) {l : List Itm} (hin : ∀ x ∈ l, inG g x = true) {x : Itm} (hx : x ∈ closedP g l) (hd : x.Dot = 0) : whyB g l (closedP g l) x (closedP g l).length = true := by
  unfold whyB
  rw [List.take_length, Bool.or_eq_true]
  rcases closedP_why o hin hx with h | ⟨_, y, hy, hb⟩
  · exact .inl (decide_eq_true h)
  · exact .inr (List.any_eq_true.2 ⟨y, hy, decide_eq_true hb⟩)

end Go.Proofs.YtcbaebkkdkdaaaaDoor
