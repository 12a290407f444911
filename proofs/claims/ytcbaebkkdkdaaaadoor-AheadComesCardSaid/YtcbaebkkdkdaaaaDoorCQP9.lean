/-
  Plain: states are numbered as they are reached; none stands twice; one symbol stands behind each.
-/
import Derived.Test.YtcbaebkkdkdaaaaDoorAhBase3

namespace Go.Proofs.YtcbaebkkdkdaaaaDoor
set_option linter.all false
open Go.Proofs.YtcbaebkkdkdaaaaDoor.E

/-- One round of finding states. -/
def stepK (g : Gram) (ks : List (List Itm)) (i : Nat) : List (List Itm) := match ks[i]? with
  | none => ks
  | some k => symK g (closedP g k) ks (g.Terms.length + g.Nons.length)

def runK (g : Gram) : Nat → Nat → List (List Itm) → List (List Itm)
  | 0, _, ks => ks
  | d + 1, i, ks => runK g d (i + 1) (stepK g ks i)

theorem runK_succ (g : Gram) : ∀ (d i : Nat) (ks : List (List Itm)), runK g (d + 1) i ks = stepK g (runK g d i ks) (i + d)
  | 0, _, _ => rfl
  | d + 1, i, ks => by
    show runK g (d + 1) (i + 1) (stepK g ks i) = stepK g (runK g d (i + 1) (stepK g ks i)) (i + (d + 1))
    rw [runK_succ g d (i + 1) (stepK g ks i), show i + 1 + d = i + (d + 1) by omega]

theorem lrF_run (g : Gram) : ∀ (f i : Nat) (ks fin : List (List Itm)), lrF g f i ks = some fin → i ≤ ks.length → ∀ d, i + d ≤ fin.length →
    runK g d i ks <+: fin ∧ (i + d < fin.length → i + d < (runK g d i ks).length) ∧ (i + d = fin.length → runK g d i ks = fin)
  | 0, _, _, _, h, _, _, _ => by cases h
  | f + 1, i, ks, fin, h, hi, d, hd => by
    have h0 := h
    unfold lrF at h
    cases hk : ks[i]? with
    | none =>
      rw [hk] at h
      simp only [Option.some.injEq] at h
      subst h
      have hl := List.getElem?_eq_none_iff.1 hk
      have : d = 0 := by omega
      subst this
      exact ⟨List.prefix_refl _, fun h => by omega, fun _ => rfl⟩
    | some k =>
      rw [hk] at h
      simp only at h
      split at h
      · cases h
      · have hlt := (List.getElem?_eq_some_iff.1 hk).1
        have hst : stepK g ks i = symK g (closedP g k) ks (g.Terms.length + g.Nons.length) := by unfold stepK; rw [hk]
        cases d with
        | zero =>
          have hp := lrF_pre g _ _ _ _ h0
          have := hp.length_le
          exact ⟨hp, fun _ => hlt, fun e => by omega⟩
        | succ d =>
          have hle := (symK_pre g (closedP g k) ks (g.Terms.length + g.Nons.length)).length_le
          have ih := lrF_run g f (i + 1) _ fin h (by omega) d (by omega)
          rw [← hst, show i + 1 + d = i + (d + 1) by omega] at ih
          exact ih

def Rk (g : Gram) (i : Nat) : List (List Itm) := runK g i 0 [[⟨0, 0⟩]]

theorem rk_all {g : Gram} (h : lrE g = 0) {i : Nat} (hi : i ≤ (lrKs g).length) : Rk g i <+: lrKs g ∧ (i < (lrKs g).length → i < (Rk g i).length) ∧ (i = (lrKs g).length → Rk g i = lrKs g) := by
  have := lrF_run g _ _ _ _ (lr_fin h).2.1 (Nat.zero_le _) i (by omega)
  rw [Nat.zero_add] at this
  exact this

theorem rk_succ {g : Gram} (h : lrE g = 0) {i : Nat} (hi : i < (lrKs g).length) : Rk g (i + 1) = symK g (closedP g (lrKs g)[i]) (Rk g i) (g.Terms.length + g.Nons.length) := by
  obtain ⟨h1, h2, _⟩ := rk_all h (Nat.le_of_lt hi)
  have h3 := h2 hi
  obtain ⟨_, e⟩ := pre_get h1 h3
  unfold Rk
  rw [runK_succ, Nat.zero_add]
  show stepK g (Rk g i) i = symK g (closedP g (lrKs g)[i]) (Rk g i) _
  unfold stepK
  rw [List.getElem?_eq_getElem h3, ← e]

theorem numK_step {fin P : List (List Itm)} {k : List Itm} (hp : addK P k <+: fin) (h0 : 0 < P.length) :
    numK fin k ≤ (P.length : Int) ∧ (if numK fin k > (P.length : Int) - 1 then numK fin k else (P.length : Int) - 1) = ((addK P k).length : Int) - 1 := by
  by_cases hk : k = []
  · have e : addK P k = P := by unfold addK; rw [if_pos (.inl hk)]
    have hn : numK fin k = -1 := by unfold numK; rw [if_pos hk]
    rw [e, hn, if_neg (by omega)]
    exact ⟨by omega, rfl⟩
  · have hn : numK fin k = (ix fin k : Nat) := by unfold numK; rw [if_neg hk]
    by_cases hm : k ∈ P
    · have e : addK P k = P := by unfold addK; rw [if_pos (.inr hm)]
      rw [e] at hp ⊢
      obtain ⟨d, rfl⟩ := hp
      have := ix_lt hm
      rw [hn, ix_app_mem hm, if_neg (by omega)]
      exact ⟨by omega, rfl⟩
    · have e : addK P k = P ++ [k] := by unfold addK; rw [if_neg (fun h => h.elim hk hm)]
      rw [e] at hp ⊢
      obtain ⟨d, rfl⟩ := hp
      rw [hn, ix_app_mem (by simp), ix_app_not hm, if_pos (by omega)]
      exact ⟨by omega, by rw [List.length_append]; simp⟩

/-- All items of a kernel have one symbol ahead of their dots. -/
def Ah (g : Gram) (k : List Itm) : Prop := ∃ s : Nat, ∀ x ∈ k, 1 ≤ x.Dot ∧ x.Dot ≤ (prd g x.Prod).Right.length ∧ (prd g x.Prod).Right.getD (x.Dot - 1).toNat 0 = (s : Int)

theorem goI_ah {g : Gram} {l : List Itm} (s : Nat) (hin : ∀ x ∈ l, inG g x = true) : Ah g (goI g l s) := by
  refine ⟨s, fun x hx => ?_⟩
  unfold goI at hx
  obtain ⟨y, hy, rfl⟩ := List.mem_map.1 hx
  obtain ⟨hy1, hy2⟩ := List.mem_filter.1 hy
  have hb := of_decide_eq_true hy2
  have hi := hin y hy1
  unfold inG at hi
  simp only [Bool.and_eq_true, decide_eq_true_eq] at hi
  unfold beh at hb
  split at hb
  · rename_i hlt
    refine ⟨by simp only; omega, by simp only; omega, ?_⟩
    simp only
    rw [show y.Dot + 1 - 1 = y.Dot by omega, hb]
  · omega

theorem symK_all {P : List Itm → Prop} {g : Gram} {l : List Itm} {ks : List (List Itm)} (h : ∀ k ∈ ks, P k) (h2 : ∀ s : Nat, P (goI g l s)) : ∀ m, ∀ k ∈ symK g l ks m, P k
  | 0 => h
  | m + 1 => by
    have ih := symK_all h h2 m
    rw [symK_succ]
    unfold addK
    split
    · exact ih
    · intro k hk
      rcases List.mem_append.1 hk with hk | hk
      · exact ih k hk
      · rw [List.mem_singleton] at hk; subst hk; exact h2 m

theorem lrF_ah {g : Gram} (o : GOk g) : ∀ (f i : Nat) (ks fin : List (List Itm)), KsOk g ks → lrF g f i ks = some fin → (∀ k ∈ ks, k = [⟨0, 0⟩] ∨ Ah g k) → ∀ k ∈ fin, k = [⟨0, 0⟩] ∨ Ah g k
  | 0, _, _, _, _, h, _ => by cases h
  | f + 1, i, ks, fin, hk, h, ha => by
    unfold lrF at h
    cases hki : ks[i]? with
    | none => rw [hki] at h; simp only [Option.some.injEq] at h; subst h; exact ha
    | some k =>
      rw [hki] at h
      simp only at h
      split at h
      · cases h
      · have hko := hk.ok k (List.mem_of_getElem? hki)
        refine lrF_ah o f (i + 1) _ fin (symK_ok o hk hko _) h (symK_all ha (fun s => .inr (goI_ah s fun x hx => ?_)) _)
        exact (((closedP_spec o.beh o.left hko.inG).2 x).1 hx).inG hko.inG

/-- What is known of the order in which states were found. -/
structure ReF (g : Gram) (KS : List (List Itm)) (GS : List (List Int)) (L : Nat → Nat → Nat) : Prop where
  z0 : L 0 0 = 1
  zn : L KS.length 0 = KS.length
  lt : ∀ i, i < KS.length → i < L i 0
  nx : ∀ i, i < KS.length → L i (g.Terms.length + g.Nons.length) = L (i + 1) 0
  bd : ∀ i s, i < KS.length → s ≤ g.Terms.length + g.Nons.length → L i s ≤ 512
  get : ∀ (i : Nat) (h2 : i < GS.length) (s : Nat) (h3 : s < GS[i].length), i < KS.length → -1 ≤ GS[i][s] ∧ GS[i][s] ≤ (L i s : Int) ∧ (if GS[i][s] > (L i s : Int) - 1 then GS[i][s] else (L i s : Int) - 1) = (L i (s + 1) : Int) - 1
  ne : ∀ (i j : Nat) (hi : i < KS.length) (hj : j < i), KS[i] ≠ KS[j]
  ah : ∀ (i : Nat) (hi : i < KS.length), 0 < i → Ah g KS[i]

theorem reF {g : Gram} (h : lrE g = 0) : ∃ L, ReF g (lrKs g) (lrGs g) L := by
  obtain ⟨hc, hk, hK, hn⟩ := lr_fin h
  obtain ⟨hlm, hwf⟩ := checkE_ok hc
  have o := GOk.of hwf
  have hlen := lr_len g
  obtain ⟨p0, k0⟩ := lr_first h
  refine ⟨fun i s => match (lrKs g)[i]? with | none => (Rk g i).length | some k => (symK g (closedP g k) (Rk g i) s).length, ?_⟩
  have hL : ∀ (i : Nat) (hi : i < (lrKs g).length) (s : Nat), (match (lrKs g)[i]? with | none => (Rk g i).length | some k => (symK g (closedP g k) (Rk g i) s).length) = (symK g (closedP g (lrKs g)[i]) (Rk g i) s).length := fun i hi s => by
    rw [List.getElem?_eq_getElem hi]
  have hL0 : ∀ (i : Nat), (match (lrKs g)[i]? with | none => (Rk g i).length | some k => (symK g (closedP g k) (Rk g i) 0).length) = (Rk g i).length := fun i => by
    cases (lrKs g)[i]? with
    | none => rfl
    | some k => rfl
  have hpre : ∀ (i : Nat) (hi : i < (lrKs g).length) (s : Nat), s ≤ g.Terms.length + g.Nons.length → symK g (closedP g (lrKs g)[i]) (Rk g i) s <+: lrKs g := fun i hi s hs => by
    obtain ⟨d, hd⟩ := Nat.exists_eq_add_of_le hs
    have h1 := symK_mono g (closedP g (lrKs g)[i]) (Rk g i) s d
    rw [← hd, ← rk_succ h hi] at h1
    exact h1.trans (rk_all h hi).1
  refine ⟨hL0 0, ?_, fun i hi => ?_, fun i hi => ?_, fun i s hi hs => ?_, fun i h2 s h3 hi => ?_, fun i j hi hj => ?_, fun i hi h0 => ?_⟩
  · rw [hL0, (rk_all h (Nat.le_refl _)).2.2 rfl]
  · rw [hL0]; exact (rk_all h (Nat.le_of_lt hi)).2.1 hi
  · rw [hL i hi, hL0, rk_succ h hi]
  · rw [hL i hi]; have := (hpre i hi s hs).length_le; omega
  · rw [hL i hi, hL i hi]
    have e := lr_row h2
    have hs : s < g.Terms.length + g.Nons.length := by rw [e, gotoR_len] at h3; exact h3
    have hv : (lrGs g)[i][s] = numK (lrKs g) (goI g (closedP g (lrKs g)[i]) s) := by
      have : ∀ (r : List Int) (hr : s < r.length), r = gotoR g (lrKs g) (lrKs g)[i] → r[s] = numK (lrKs g) (goI g (closedP g (lrKs g)[i]) s) := fun r hr e => by subst e; exact gotoR_get hr
      exact this _ h3 e
    have h4 := hpre i hi (s + 1) hs
    rw [symK_succ] at h4 ⊢
    have h5 := numK_step h4 (by have := (symK_pre g (closedP g (lrKs g)[i]) (Rk g i) s).length_le; have := (rk_all h (Nat.le_of_lt hi)).2.1 hi; omega)
    rw [hv]
    refine ⟨?_, h5⟩
    unfold numK; split <;> omega
  · exact fun e => by
      have h1 := List.pairwise_iff_getElem.1 hK.nd j i (by omega) hi hj
      exact h1 e.symm
  · refine (lrF_ah o _ _ _ _ (beg_ok o) hk (fun k hk => .inl (by simpa using hk)) _ (List.getElem_mem hi)).resolve_left fun e => ?_
    have h1 := List.pairwise_iff_getElem.1 hK.nd 0 i p0 hi h0
    exact h1 (by rw [k0, e])

end Go.Proofs.YtcbaebkkdkdaaaaDoor
