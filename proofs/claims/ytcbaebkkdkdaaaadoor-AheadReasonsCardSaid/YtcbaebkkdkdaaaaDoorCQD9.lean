/-
  Plain and memory: what is seen of canonical states; states of one's own, read and written.
-/
import Derived.Test.YtcbaebkkdkdaaaaDoorCQD5
import Derived.Test.YtcbaebkkdkdaaaaDoorCQD8
import Derived.Test.YtcbaebkkdkdaaaaDoorAhBase4

namespace Go.Proofs.YtcbaebkkdkdaaaaDoor
set_option linter.all false
open Go.Proofs.YtcbaebkkdkdaaaaDoor.E

/-! ### more states -/
theorem getElem_app {α : Type} {l : List α} {x : α} {j : Nat} (h : j < l.length) (h2 : j < (l ++ [x]).length) : (l ++ [x])[j] = l[j] := List.getElem_append_left h
theorem Cans.app {g : Gram} {L : List (List On)} {M : List Nat} (hC : Cans g L M) {R : List On} {n : Nat} (hR : Over g (lrKs g) (lrGs g) n R) : Cans g (L ++ [R]) (M ++ [n]) := by
  have hl := hC.len
  refine ⟨by simp [hl], fun j h h2 => ?_, ?_⟩
  · by_cases hj : j < L.length
    · rw [getElem_app hj, getElem_app (by omega)]
      exact hC.over j hj (by omega)
    · have e : j = L.length := by simp at h; omega
      subst e
      have e2 : (M ++ [n])[L.length] = n := by rw [List.getElem_append_right (by omega)]; simp [hl]
      have e3 : (L ++ [R])[L.length] = R := by rw [List.getElem_append_right (by omega)]; simp
      rw [e2, e3]; exact hR
  · obtain ⟨h1, h2, e1, e2⟩ := hC.first
    refine ⟨by simp, by simp, ?_, ?_⟩
    · rw [getElem_app h2]; exact e1
    · rw [getElem_app h1]; exact e2
theorem DoneS.app {g : Gram} {L : List (List On)} {M : List Nat} {j n : Nat} (hj : j < L.length) (hj2 : j < M.length) (h : DoneS g L M j n) (R : List On) (m : Nat) : DoneS g (L ++ [R]) (M ++ [m]) j n := fun h1 h2 s hs o ho hb => by
  rw [getElem_app hj] at ho
  obtain ⟨k, h3, h4, e1, e2⟩ := h hj hj2 s hs o ho hb
  refine ⟨k, by simp; omega, by simp; omega, ?_, ?_⟩
  · rw [getElem_app hj2, getElem_app h4]; exact e1
  · rw [getElem_app h3]; exact e2
theorem DoneS.succ {g : Gram} {L : List (List On)} {M : List Nat} {j n : Nat} (h : DoneS g L M j n) (hn : ∀ (h : j < L.length) (h2 : j < M.length), ∀ o ∈ L[j], beh g o.x = (n : Int) → ∃ (k : Nat) (h3 : k < L.length) (h4 : k < M.length), (lrGs g).getD M[j] [] |>.getD n 0 |> fun z => z = (M[k] : Int) ∧ advO o ∈ L[k]) : DoneS g L M j (n + 1) := fun h1 h2 s hs o ho hb => by
  by_cases e : s = n
  · subst e; exact hn h1 h2 o ho hb
  · exact h h1 h2 s (by omega) o ho hb

/-! ### what is seen -/
def seenL (L : List (List On)) (M : List Nat) (i k : Nat) : List (Nat × On) := ((List.range i).flatMap fun j => (L.getD j []).map fun o => (M.getD j 0, o)) ++ ((L.getD i []).take k).map fun o => (M.getD i 0, o)
theorem seenL_succ {L : List (List On)} {M : List Nat} {i k : Nat} (hi : i < L.length) (hm : i < M.length) (hk : k < L[i].length) : seenL L M i (k + 1) = seenL L M i k ++ [(M[i], L[i][k])] := by
  unfold seenL
  have e1 : L.getD i [] = L[i] := by rw [List.getD_eq_getElem?_getD, List.getElem?_eq_getElem hi]; rfl
  have e2 : M.getD i 0 = M[i] := by rw [List.getD_eq_getElem?_getD, List.getElem?_eq_getElem hm]; rfl
  rw [e1, e2, List.take_succ_eq_append_getElem hk, List.map_append, List.append_assoc]; rfl
theorem seenL_next {L : List (List On)} {M : List Nat} {i : Nat} : seenL L M (i + 1) 0 = seenL L M i (L.getD i []).length := by
  unfold seenL
  rw [List.range_succ, List.flatMap_append, List.take_zero, List.map_nil, List.append_nil, List.take_length]; simp
theorem getD_app {α : Type} {l : List α} {x d : α} {j : Nat} (h : j < l.length) : (l ++ [x]).getD j d = l.getD j d := by
  rw [List.getD_eq_getElem?_getD, List.getD_eq_getElem?_getD, List.getElem?_append_left h]
theorem seenL_app {L : List (List On)} {M : List Nat} {R : List On} {n i k : Nat} (hi : i < L.length) (hm : i < M.length) : seenL (L ++ [R]) (M ++ [n]) i k = seenL L M i k := by
  unfold seenL
  rw [getD_app hi, getD_app hm]
  congr 1
  have : ∀ m, m ≤ i → ((List.range m).flatMap fun j => ((L ++ [R]).getD j []).map fun o => ((M ++ [n]).getD j 0, o)) = ((List.range m).flatMap fun j => (L.getD j []).map fun o => (M.getD j 0, o)) := by
    intro m
    induction m with
    | zero => intro _; rfl
    | succ m ih => intro h; rw [List.range_succ, List.flatMap_append, List.flatMap_append, ih (by omega)]; simp only [List.flatMap_cons, List.flatMap_nil]; rw [getD_app (by omega), getD_app (by omega)]
  exact this i (Nat.le_refl _)
theorem seenL_mem {L : List (List On)} {M : List Nat} {a : Nat} {o : On} (hl : M.length = L.length) : (a, o) ∈ seenL L M L.length 0 ↔ ∃ (j : Nat) (h1 : j < L.length) (h2 : j < M.length), M[j] = a ∧ o ∈ L[j] := by
  unfold seenL
  rw [List.take_zero, List.map_nil, List.append_nil, List.mem_flatMap]
  constructor
  · rintro ⟨j, hj, hm⟩
    have hj := List.mem_range.1 hj
    obtain ⟨o2, ho, e⟩ := List.mem_map.1 hm
    rw [List.getD_eq_getElem?_getD, List.getElem?_eq_getElem hj] at ho
    rw [List.getD_eq_getElem?_getD, List.getElem?_eq_getElem (by omega : j < M.length)] at e
    simp only [Option.getD_some, Prod.mk.injEq] at e ho
    obtain ⟨rfl, rfl⟩ := e
    exact ⟨j, hj, by omega, rfl, ho⟩
  · rintro ⟨j, h1, h2, rfl, ho⟩
    refine ⟨j, List.mem_range.2 h1, List.mem_map.2 ⟨o, ?_, ?_⟩⟩
    · rw [List.getD_eq_getElem?_getD, List.getElem?_eq_getElem h1]; exact ho
    · rw [List.getD_eq_getElem?_getD, List.getElem?_eq_getElem h2]; rfl

/-- A three-deep table of truth values. -/
def bit3 (S : List (List Bits)) (a b c : Nat) : Bool := ((S.getD a []).getD b []).getD c false
def set3 (S : List (List Bits)) (a b c : Nat) : List (List Bits) := S.set a ((S.getD a []).set b (((S.getD a []).getD b []).set c true))
structure Shp (S : List (List Bits)) (n p t : Nat) : Prop where
  n : S.length = n
  p : ∀ (i : Nat) (h : i < S.length), S[i].length = p
  t : ∀ (i : Nat) (h : i < S.length) (k : Nat) (h2 : k < S[i].length), S[i][k].length = t
theorem getD_at {α : Type} {l : List α} {d : α} {i : Nat} (h : i < l.length) : l.getD i d = l[i] := by rw [List.getD_eq_getElem?_getD, List.getElem?_eq_getElem h]; rfl
theorem getD_setx {α : Type} {l : List α} {d x : α} {i j : Nat} (h : i < l.length) : (l.set i x).getD j d = if i = j then x else l.getD j d := by
  rw [List.getD_eq_getElem?_getD, List.getElem?_set]
  split
  · rename_i e; subst e; simp [h]
  · rw [List.getD_eq_getElem?_getD]
theorem bit3_set {S : List (List Bits)} {n p t a b c a' b' c' : Nat} (h : Shp S n p t) (ha : a < n) (hb : b < p) (hc : c < t) : bit3 (set3 S a b c) a' b' c' = (bit3 S a' b' c' || decide (a = a' ∧ b = b' ∧ c = c')) := by
  have h1 : a < S.length := by rw [h.n]; exact ha
  have h2 : b < (S.getD a []).length := by rw [getD_at h1, h.p]; exact hb
  have h3 : c < ((S.getD a []).getD b []).length := by
    rw [getD_at h2]
    have := h.t a h1 b (by rw [h.p]; exact hb)
    simp only [getD_at h1]
    rw [this]; exact hc
  unfold bit3 set3
  rw [getD_setx h1]
  by_cases e1 : a = a'
  · subst e1
    rw [if_pos rfl, getD_setx h2]
    by_cases e2 : b = b'
    · subst e2
      rw [if_pos rfl, getD_setx h3]
      by_cases e3 : c = c'
      · subst e3; simp
      · rw [if_neg e3]; simp [e3]
    · rw [if_neg e2]; simp [e2]
  · rw [if_neg e1]; simp [e1]
theorem Shp.set3 {S : List (List Bits)} {n p t a b c : Nat} (h : Shp S n p t) (ha : a < n) (hb : b < p) : Shp (set3 S a b c) n p t := by
  have h1 : a < S.length := by rw [h.n]; exact ha
  have h2 : b < S[a].length := by rw [h.p]; exact hb
  have e : Go.Proofs.YtcbaebkkdkdaaaaDoor.set3 S a b c = S.set a (S[a].set b (S[a][b].set c true)) := by
    unfold Go.Proofs.YtcbaebkkdkdaaaaDoor.set3
    rw [getD_at h1, getD_at h2]
  rw [e]
  refine ⟨by rw [List.length_set]; exact h.n, fun i hi => ?_, fun i hi k hk => ?_⟩
  · rw [List.length_set] at hi
    rw [List.getElem_set]
    split
    · rw [List.length_set]; exact h.p a h1
    · exact h.p i hi
  · have hi2 := hi
    rw [List.length_set] at hi2
    by_cases e1 : a = i
    · subst e1
      simp only [List.getElem_set_self] at hk ⊢
      rw [List.length_set] at hk
      rw [List.getElem_set]
      split
      · rw [List.length_set]; exact h.t a h1 b h2
      · exact h.t a h1 k hk
    · simp only [List.getElem_set_ne e1] at hk ⊢
      exact h.t i hi2 k hk

/-- The table tells what was seen. -/
structure SeenT (g : Gram) (S : List (List Bits)) (n : Nat) (l : List (Nat × On)) : Prop where
  shp : Shp S n g.Prods.length g.Terms.length
  bits : ∀ a b c : Nat, a < n → b < g.Prods.length → c < g.Terms.length → (bit3 S a b c = true ↔ ∃ o, (a, o) ∈ l ∧ o.x = ⟨b, (prd g b).Right.length⟩ ∧ o.t = c)

/-! ### reading and writing -/
section mem
variable {E0 : Go.Proofs.YtcbaebkkdkdaaaaDoor.E.Env} {fr : Frm} {U U' W : List Asn}
abbrev encOs (l : List On) : List Value := l.flatMap encO
theorem can_ons {A : Option Addr} {c n : Nat} {l : List On} (hn : n = l.length) (ht : Tak (pO A n c l) U U') (hI : ∀ o ∈ l, I64 o.x.Prod ∧ I64 o.x.Dot ∧ I64 o.t) (hb : l.length ≤ 100000) : Go.Proofs.YtcbaebkkdkdaaaaDoor.E.Can E0 U ((kslice 24 kOn).rd [.slice A n c] l) := by
  subst hn
  refine Can.of fun w S hs => ?_
  obtain ⟨S1, h1, hsub⟩ := ht.mem hs
  unfold pO at h1
  rw [List.flatMap_def] at h1
  obtain ⟨h2, h3⟩ := osl_elsG (kd := kOn) (S := S) h1 hsub (by simp) rfl (fun i h1 h2 => by
    rw [List.getElem_map]
    obtain ⟨e1, e2, e3⟩ := hI _ (List.getElem_mem h2)
    exact kOn_mk e1 e2 e3)
  exact ⟨A, c, rfl, h3, by omega, h2⟩
theorem can_onss {V : List Asn} {AL : Option Addr} {cL n : Nat} {kcs : AcL} {L : List (List On)} (hn : n = L.length) (hl : kcs.length = L.length) (hL : L.length ≤ 1000) (hI : ∀ l ∈ L, l.length ≤ 100000 ∧ ∀ o ∈ l, I64 o.x.Prod ∧ I64 o.x.Dot ∧ I64 o.t)
    (he : Ent V ([osl 72 1 (.slice AL n cL) n (rowC kcs L), bun (rowX encOs 3 75 kcs L)] ++ U)) : Go.Proofs.YtcbaebkkdkdaaaaDoor.E.Can E0 V ((kslice 24 (kslice 24 kOn)).rd [.slice AL n cL] L) :=
  Can.of fun w S hs => by
    subst hn
    have h := he w S hs
    obtain ⟨_, h0, i0⟩ := star_mem (i := 0) rfl h
    obtain ⟨_, h1, i1⟩ := star_mem (i := 1) rfl h
    have e1 := els_rows (β := Unit) (kd := kOn) (bi := 24) hl rfl h0 i0 h1 i1 (fun i hi S3 h3 => can_to (R := (kslice 24 kOn).rd _ _) Tryd.prog (fun E => can_ons rfl .z (hI _ (List.getElem_mem hi)).2 (hI _ (List.getElem_mem hi)).1) h3)
    exact ⟨AL, cL, rfl, e1.2, by omega, e1.1⟩

theorem innB_set {D : List AcL} {S : List (List Bits)} (hD : D.length = S.length) {p : Nat} (hp : p < S.length) (r : List Bits) : (innB D S).set p (bun (rowX cB 1 4 (D[p]'(hD ▸ hp)) r)) = innB D (S.set p r) := by
  unfold innB
  apply List.ext_getElem
  · simp
  · intro j h1 h2
    rw [List.getElem_zipWith, List.getElem_set, List.getElem_set]
    split
    · rename_i e; subst e; rfl
    · rw [List.getElem_zipWith]

theorem o_store_inn {N : Frm → List Asn → Prop} {t : TypeId} {x y : Operand} {ty : TypeId} {pos : String} {af : Array Edge} {gd : Option (Nat × Bool)} {i : TI} {b o : Nat} {D : List AcL} {S : List (List Bits)}
    (hx : val fr x = some (.pointer (some ⟨b, o, none⟩))) (hy : val fr y = some (.bool true)) (ht : tl E0.T t = some i) (hs : Nat.beq i.size 1 = true) (hD : D.length = S.length) (hDr : ∀ (i : Nat) (h1 : i < D.length) (h2 : i < S.length), D[i].length = S[i].length) (p q c : Nat) (hp : p < S.length) (hq : q < S[p].length)
    (hb : ((D[p]'(hD ▸ hp))[q]'((hDr p (hD ▸ hp) hp) ▸ hq)).1 = some ⟨b, 0, none⟩) (ho : o = c) (hc : c < S[p][q].length) (hU : Tak (bun (innB D S)) U W) (h : N fr (bun (innB D (set3 S p q c)) :: W)) : EV1 E0 ⟨none, .store t x y, ty, pos, af, gd⟩ fr U N := by
  subst ho
  have h1 := Nat.eq_of_beq_eq_true hs
  refine EV1_ent (Ent.trans (Ent.tak hU (Ent.refl _)) (ent_bunAt (innB_get hD hp))) ?_
  refine o_store_row (f := cB) (vs := [.bool true]) hx hy ht rfl (by rw [h1]; rfl) rfl (hDr p (hD ▸ hp) hp) q hq hb (by rw [cB_len, h1]; omega) .z (S[p][q].set o true) (by rw [List.length_set]) (by simp only [setMany]; unfold cB; rw [List.map_set]) ⟨_, ?_, h⟩
  have e : set3 S p q o = S.set p (S[p].set q (S[p][q].set o true)) := by unfold set3; rw [getD_at hp, getD_at hq]
  rw [e, ← innB_set hD hp]
  exact ent_bunSet (innB_get hD hp)
end mem

end Go.Proofs.YtcbaebkkdkdaaaaDoor
